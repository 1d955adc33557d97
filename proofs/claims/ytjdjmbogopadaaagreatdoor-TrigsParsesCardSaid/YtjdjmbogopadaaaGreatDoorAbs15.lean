/- Calls: what is handed to a callee, and what comes back. No condition. -/
import Derived.Test.YtjdjmbogopadaaaGreatDoorAbs14
set_option linter.unusedVariables false
set_option linter.unusedSimpArgs false
namespace Go.Cellar
open Go

theorem idxIn_some {r : Nat} : ∀ (l : List Nat) (i j : Nat), idxIn r l i = some j → i ≤ j ∧ l[j - i]? = some r
  | [], i, j, h => by simp [idxIn] at h
  | x :: l, i, j, h => by
    unfold idxIn at h
    split at h
    · rename_i hx
      simp only [Option.some.injEq] at h
      subst h
      exact ⟨Nat.le_refl _, by simp [hx]⟩
    · obtain ⟨h1, h2⟩ := idxIn_some l (i + 1) j h
      refine ⟨by omega, ?_⟩
      have : j - i = (j - (i + 1)) + 1 := by omega
      rw [this]; simpa using h2

theorem idxIn_some0 {r : Nat} {l : List Nat} {j : Nat} (h : idxIn r l 0 = some j) : l[j]? = some r := by
  have := (idxIn_some l 0 j h).2
  simpa using this

theorem addNew_nodup : ∀ (xs l : List Nat), l.Nodup → (addNew l xs).Nodup
  | [], l, h => by simpa [addNew] using h
  | x :: xs, l, h => by
    unfold addNew
    split
    · exact addNew_nodup xs l h
    · rename_i hc
      refine addNew_nodup xs _ ?_
      have : x ∉ l := by simpa using hc
      rw [List.nodup_append]
      refine ⟨h, by simp, fun a ha b hb => ?_⟩
      simp at hb
      subst hb
      intro e; subst e; exact this ha

theorem reach_nodup (hp : List AO) : ∀ (n : Nat) (l : List Nat), l.Nodup → (reach hp n l).Nodup
  | 0, l, h => h
  | n + 1, l, h => by
    unfold reach
    exact reach_nodup hp n _ (addNew_nodup _ _ h)

/-! ### values that hold no list -/

theorem RepT.free {w w' : World} {ok ok' : Nat → Prop} : ∀ (t : Ty) (x : t.T) (vs : List Value), t.hasList = false → RepT w ok t x vs → RepT w' ok' t x vs
  | .int _, _, _, _, h => by simp only [RepT] at h ⊢; exact h
  | .bool, _, _, _, h => by simp only [RepT] at h ⊢; exact h
  | .str, _, _, _, h => by simp only [RepT] at h ⊢; exact h
  | .list _, _, _, hf, _ => by simp [Ty.hasList] at hf
  | .prod a b, x, vs, hf, h => by
    simp only [Ty.hasList, Bool.or_eq_false_iff] at hf
    simp only [RepT] at h ⊢
    obtain ⟨va, vb, rfl, ha, hb⟩ := h
    exact ⟨va, vb, rfl, RepT.free a _ _ hf.1 ha, RepT.free b _ _ hf.2 hb⟩
  | .one a, x, vs, hf, h => by
    simp only [Ty.hasList] at hf
    simp only [RepT] at h ⊢
    exact RepT.free a _ _ hf h

structure SubRef (E E' : Env) (g : AV → AV) : Prop where
  view : ∀ r lo hi v, Rep E (.view r lo hi) v → Rep E' (g (.view r lo hi)) v
  ptr : ∀ r off v, Rep E (.ptr r off) v → Rep E' (g (.ptr r off)) v
  rptr : ∀ r i off v, Rep E (.rptr r i off) v → Rep E' (g (.rptr r i off)) v

mutual
theorem Rep.subFree {E E' : Env} {g : AV → AV} (hg : SubRef E E' g) : ∀ (a : AV) (v : Value), a.lists = false → Rep E a v → Rep E' (a.sub g) v
  | .junk, _, _, _ => by simp [Rep, AV.sub]
  | .int k n, v, _, h => by simp only [Rep, AV.sub] at h ⊢; exact h
  | .bool b, v, _, h => by simp only [Rep, AV.sub] at h ⊢; exact h
  | .str s, v, _, h => by simp only [Rep, AV.sub] at h ⊢; exact h
  | .list t l full, v, hf, h => by simp [AV.lists] at hf
  | .nils, v, _, h => by simp only [Rep, AV.sub] at h ⊢; exact h
  | .view r lo hi, v, _, h => by rw [AV.sub]; exact hg.view r lo hi v h
  | .ptr r off, v, _, h => by rw [AV.sub]; exact hg.ptr r off v h
  | .rptr r i off, v, _, h => by rw [AV.sub]; exact hg.rptr r i off v h
  | .iptr cs, v, hf, h => by simp [AV.lists] at hf
  | .nilp, v, _, h => by simp only [Rep, AV.sub] at h ⊢; exact h
  | .func fn f c, _, hf, h => by
    simp only [AV.lists, Bool.or_eq_false_iff] at hf
    simp only [Rep] at h
    obtain ⟨fs, cs, rfl, h1, h2⟩ := h
    simp only [AV.sub, Rep]
    exact ⟨fs, cs, rfl, RepL.subFree hg f _ hf.1 h1, RepL.subFree hg c _ hf.2 h2⟩
  | .nilf, v, _, h => by simp only [Rep, AV.sub] at h ⊢; exact h
  | .nili, v, _, h => by simp only [Rep, AV.sub] at h ⊢; exact h
  | .maybe _, v, _, h => by simp only [Rep, AV.sub] at h ⊢; exact h
  | .agg cs, _, hf, h => by
    simp only [AV.lists] at hf
    simp only [Rep] at h
    obtain ⟨vs, rfl, h1⟩ := h
    simp only [AV.sub, Rep]
    exact ⟨vs, rfl, RepL.subFree hg cs _ hf h1⟩
  | .tup cs, _, hf, h => by
    simp only [AV.lists] at hf
    simp only [Rep] at h
    obtain ⟨vs, rfl, h1⟩ := h
    simp only [AV.sub, Rep]
    exact ⟨vs, rfl, RepL.subFree hg cs _ hf h1⟩
theorem RepL.subFree {E E' : Env} {g : AV → AV} (hg : SubRef E E' g) : ∀ (as : List AV) (vs : List Value), AV.listsL as = false → RepL E as vs → RepL E' (AV.subL g as) vs
  | [], _, _, h => by simp only [RepL] at h; simp [AV.subL, RepL, h]
  | a :: as, _, hf, h => by
    simp only [AV.listsL, Bool.or_eq_false_iff] at hf
    simp only [RepL] at h
    obtain ⟨v, vs', rfl, h1, h2⟩ := h
    simp only [AV.subL, RepL]
    exact ⟨v, vs', rfl, Rep.subFree hg a v hf.1 h1, RepL.subFree hg as vs' hf.2 h2⟩
end

theorem ORep.subFree {E E' : Env} {g : AV → AV} (hg : SubRef E E' g) {b : Option Nat} {o : AO} (hf : o.lists = false) (h : ORep E b o) (hb : ∀ k, b = some k → E'.w.heap[k]? = E.w.heap[k]?) : ORep E' b (o.sub g) := by
  cases o with
  | dead => simp [AO.sub, ORep]
  | box cs =>
    simp only [AO.lists] at hf
    obtain ⟨k, vs, e, rfl, h1, h2⟩ := h
    exact ⟨k, vs, e, rfl, by rw [hb k rfl]; exact h1, RepL.subFree hg cs _ hf h2⟩
  | row t l =>
    simp only [AO.lists] at hf
    rcases h with h | ⟨k, vs, e, rfl, h1, h2⟩
    · exact .inl h
    · exact .inr ⟨k, vs, e, rfl, by rw [hb k rfl]; exact h1, h2.1, fun i hi => RepT.free t _ _ hf (h2.2 i hi)⟩
  | arr t l =>
    simp only [AO.lists] at hf
    obtain ⟨k, vs, e, rfl, h1, h2⟩ := h
    exact ⟨k, vs, e, rfl, by rw [hb k rfl]; exact h1, h2.1, fun i hi => RepT.free t _ _ hf (h2.2 i hi)⟩
  | bld T v =>
    simp only [AO.lists] at hf
    obtain ⟨k, p, x, rfl, h1, h2, h3, h4⟩ := h
    exact ⟨k, p, x, rfl, by rw [hb k rfl]; exact h1, h2, Rep.subFree hg v x hf h3, h4⟩
  | buf e l =>
    rcases h with h | ⟨k, cur, fz, rfl, h1, h2⟩
    · exact .inl h
    · exact .inr ⟨k, cur, fz, rfl, by rw [hb k rfl]; exact h1, h2⟩

/-! ### handing over -/

def Inp.into (I : Inp) (w : World) (bl : List (Option Nat)) (hp : List AO) (tr bor : List Nat) (hin : List AO) : Inp :=
  ⟨w, fun b => (I.ok0 b ∨ some b ∈ I.bl0 ∨ I.w0.heap.size ≤ b) ∧ some b ∉ blBor hp bor bl, tr.map fun r => (bl[r]?).join, hin⟩

theorem blBor_mem {hp : List AO} {bor : List Nat} {bl : List (Option Nat)} {b : Nat} (h : some b ∈ blBor hp bor bl) : some b ∈ bl := by
  obtain ⟨j, hj⟩ := mem_bl h
  unfold blBor at hj
  rw [blFreeze_get] at hj
  cases h2 : bl[j]? with
  | none => simp [h2] at hj
  | some q =>
    rw [h2] at hj
    simp only [Option.map_some, Option.some.injEq] at hj
    split at hj
    · cases hj
    · subst hj; exact List.mem_of_getElem? h2

section
variable {I : Inp} {w : World} {bl : List (Option Nat)} {hp : List AO} {tr bor : List Nat}

theorem tr_mem {b : Nat} (h : some b ∈ tr.map fun r => (bl[r]?).join) : ∃ (r j : Nat), tr[j]? = some r ∧ bl[r]? = some (some b) := by
  obtain ⟨j, hj⟩ := mem_bl h
  rw [List.getElem?_map] at hj
  cases h2 : tr[j]? with
  | none => simp [h2] at hj
  | some r =>
    rw [h2] at hj
    simp only [Option.map_some, Option.some.injEq] at hj
    rw [Option.join_eq_some_iff] at hj
    exact ⟨r, j, h2, hj⟩

theorem rowShape_tr {g : AV → AV} {r j : Nat} (hj : tr[j]? = some r) : rowShape (tr.map fun r => AO.sub g (hp.getD r .dead)) j = rowShape hp r := by
  unfold rowShape
  rw [List.getElem?_map, hj]
  simp only [Option.map_some, List.getD_eq_getElem?_getD]
  cases h : hp[r]? with
  | none => rfl
  | some o => cases o <;> rfl

theorem bl_tr {r j : Nat} (hj : tr[j]? = some r) {q : Option Nat} (hq : bl[r]? = some q) : (tr.map fun r => (bl[r]?).join)[j]? = some q := by
  rw [List.getElem?_map, hj]
  simp [hq]

/-- What the callee sees is what the caller has. -/
theorem into_subOk (h : HSim I w bl hp) (hin : List AO) (hhin : hin = tr.map fun r => AO.sub (gInto hp tr bor) (hp.getD r .dead)) :
    SubOk (I.env w bl hp) ((I.into w bl hp tr bor hin).env w (tr.map fun r => (bl[r]?).join) hin) (gInto hp tr bor) := by
  have hok : OkLe w (I.ok bl) w ((I.into w bl hp tr bor hin).ok (tr.map fun r => (bl[r]?).join)) := fun b hb hlt =>
    ⟨⟨.inl ⟨hb.1, fun hm => hb.2 (blBor_mem hm)⟩, fun hm => by
      obtain ⟨r, j, _, h2⟩ := tr_mem hm
      exact hb.2 (List.mem_of_getElem? h2)⟩, rfl⟩
  refine ⟨hok, ?_, ?_, ?_⟩
  · intro r lo hi v hv
    simp only [gInto]
    split
    · rename_i j hj
      have hj' := idxIn_some0 hj
      simp only [Rep] at hv ⊢
      obtain ⟨sz, n, h1, h2, h3, ad, cap, h4, h5, h6⟩ := hv
      refine ⟨sz, n, ?_, h2, h3, ad, cap, h4, h5, ?_⟩
      · show rowShape hin j = _
        rw [hhin, rowShape_tr hj']; exact h1
      · rcases h6 with h6 | ⟨b, hb, ha, hs⟩
        · exact .inl h6
        · exact .inr ⟨b, bl_tr hj' hb, ha, hs⟩
    · rename_i hnone
      split
      · rename_i hbor
        unfold rowList
        split
        · rename_i t l hr
          have hv0 := hv
          simp only [Rep] at hv ⊢
          obtain ⟨sz, n, h1, h2, h3, ad, cap, h4, h5, h6⟩ := hv
          have h1' : rowShape hp r = some (sz, n) := h1
          simp only [rowShape, hr, Option.some.injEq, Prod.mk.injEq] at h1'
          obtain ⟨rfl, rfl⟩ := h1'
          have el : part l lo hi = (l.take (lo + (hi.getD l.length - lo))).drop lo := by
            cases hi with
            | none => simp only [Option.getD_none, part] at h2 ⊢; rw [show lo + (l.length - lo) = l.length by omega, List.take_length]
            | some q => simp only [Option.getD_some, part] at h2 ⊢; rw [show lo + (q - lo) = q by omega]
          refine ⟨?_, by simp⟩
          rw [el]
          rcases h6 with h6 | ⟨b, hb, ha, hs⟩
          · subst h6
            have h7 : hi.getD l.length - lo = 0 := by omega
            rw [h4, h7]
            have : (l.take (lo + 0)).drop lo = [] := by apply List.drop_eq_nil_of_le; simp; omega
            rw [this]
            exact nil_of_row (E := (I.into w bl hp tr bor hin).env w (tr.map fun r => (bl[r]?).join) hin) t ad
          · have hb' : bl[r]? = some (some b) := hb
            rcases h.obj r _ hr with ⟨h8, _⟩ | ⟨k, vs, e, h8, h9, h10⟩
            · rw [hb'] at h8; cases h8
            · rw [hb'] at h8
              simp only [Option.join_some, Option.some.injEq] at h8
              subst h8
              rw [h4, ha]
              refine list_of_row (vs := vs) (e := e) (l := l) (E := (I.into w bl hp tr bor hin).env w (tr.map fun r => (bl[r]?).join) hin) ⟨.inl ⟨?_, fun hm => ?_⟩, fun hm => ?_⟩ h9 (h10.mono hok) (by omega) h5 _ rfl
              · rcases (h.at_ r b hb').2 with h11 | h11
                · exact .inr (.inl h11)
                · exact .inr (.inr h11)
              · obtain ⟨j, hj⟩ := mem_bl hm
                unfold blBor at hj
                rw [blFreeze_get] at hj
                cases h12 : bl[j]? with
                | none => simp [h12] at hj
                | some q =>
                  rw [h12] at hj
                  simp only [Option.map_some, Option.some.injEq] at hj
                  split at hj
                  · cases hj
                  · rename_i hn
                    subst hj
                    have := h.inj j r b h12 hb'
                    subst this
                    exact hn (by simp only [Bool.and_eq_true]; exact ⟨hbor, by simp [isRow, hr]⟩)
              · obtain ⟨r', j, hj, h12⟩ := tr_mem hm
                have := h.inj r' r b h12 hb'
                subst this
                have hne : ∀ (l : List Nat) (i j : Nat), l[j]? = some r' → idxIn r' l i ≠ none := by
                  intro l
                  induction l with
                  | nil => intro i j hh; simp at hh
                  | cons x l ih =>
                    intro i j hh
                    unfold idxIn
                    split
                    · simp
                    · rename_i hx
                      cases j with
                      | zero => simp at hh; exact absurd hh hx
                      | succ j => exact ih (i + 1) j (by simpa using hh)
                exact hne tr 0 j hj hnone
        · simp [Rep]
      · simp [Rep]
  · intro r off v hv
    simp only [gInto]
    split
    · rename_i j hj
      have hj' := idxIn_some0 hj
      simp only [Rep] at hv ⊢
      obtain ⟨b, hb, rfl⟩ := hv
      exact ⟨b, bl_tr hj' hb, rfl⟩
    · simp [Rep]
  · intro r i off v hv
    simp only [gInto]
    split
    · rename_i j hj
      have hj' := idxIn_some0 hj
      simp only [Rep] at hv ⊢
      obtain ⟨b, sz, n, hb, hs, rfl⟩ := hv
      refine ⟨b, sz, n, bl_tr hj' hb, ?_, rfl⟩
      show rowShape hin j = _
      rw [hhin, rowShape_tr hj']; exact hs
    · simp [Rep]

theorem nodup_idx : ∀ {l : List Nat}, l.Nodup → ∀ {i j : Nat} {x : Nat}, l[i]? = some x → l[j]? = some x → i = j
  | [], _, i, j, x, hi, _ => by simp at hi
  | y :: l, h, i, j, x, hi, hj => by
    rw [List.nodup_cons] at h
    cases i with
    | zero =>
      cases j with
      | zero => rfl
      | succ j =>
        simp only [List.getElem?_cons_zero, Option.some.injEq] at hi
        simp only [List.getElem?_cons_succ] at hj
        subst hi
        exact absurd (List.mem_of_getElem? hj) h.1
    | succ i =>
      cases j with
      | zero =>
        simp only [List.getElem?_cons_zero, Option.some.injEq] at hj
        simp only [List.getElem?_cons_succ] at hi
        subst hj
        exact absurd (List.mem_of_getElem? hi) h.1
      | succ j =>
        simp only [List.getElem?_cons_succ] at hi hj
        rw [nodup_idx h.2 hi hj]

/-- The callee begins in the invariant. -/
theorem into_hsim (h : HSim I w bl hp) (htr : tr.Nodup) (hin : List AO) (hhin : hin = tr.map fun r => AO.sub (gInto hp tr bor) (hp.getD r .dead)) :
    HSim (I.into w bl hp tr bor hin) w (tr.map fun r => (bl[r]?).join) hin where
  len := by rw [hhin]; simp
  many := Nat.le_refl _
  inj := by
    intro j j' b h1 h2
    rw [List.getElem?_map] at h1 h2
    cases h3 : tr[j]? with
    | none => simp [h3] at h1
    | some r =>
      cases h4 : tr[j']? with
      | none => simp [h4] at h2
      | some r' =>
        rw [h3] at h1; rw [h4] at h2
        simp only [Option.map_some, Option.some.injEq, Option.join_eq_some_iff] at h1 h2
        have := h.inj r r' b h1 h2
        subst this
        exact nodup_idx htr h3 h4
  at_ := by
    intro j b h1
    obtain ⟨r, j', _, h2⟩ := tr_mem (List.mem_of_getElem? h1)
    exact ⟨(h.at_ r b h2).1, .inl (List.mem_of_getElem? h1)⟩
  obj := by
    intro j o hj
    rw [hhin, List.getElem?_map] at hj
    cases h3 : tr[j]? with
    | none => simp [h3] at hj
    | some r =>
      rw [h3] at hj
      simp only [Option.map_some, Option.some.injEq] at hj
      subst hj
      have e : (tr.map fun r => (bl[r]?).join)[j]?.join = (bl[r]?).join := by
        rw [List.getElem?_map, h3]; simp
      rw [e]
      rw [List.getD_eq_getElem?_getD]
      cases h5 : hp[r]? with
      | none => simp [AO.sub, ORep]
      | some o0 => exact (h.obj r o0 h5).sub (into_subOk h hin hhin) (fun _ _ => rfl)
  le := Nat.le_refl _
  old := fun _ _ _ => rfl
  os := rfl
  tape := rfl
  output := rfl
  pin := fun j o h1 h2 => ⟨rfl, o, h1, h2⟩

/-! ### coming back -/

theorem writeBack_length (g : AV → AV) : ∀ (rs : List Nat) (os : List AO) (hp : List AO), (writeBack g rs os hp).length = hp.length
  | [], os, hp => by cases os <;> simp [writeBack]
  | r :: rs, [], hp => by simp [writeBack]
  | r :: rs, o :: os, hp => by simp [writeBack, writeBack_length g rs os]

theorem writeBack_other (g : AV → AV) : ∀ (rs : List Nat) (os : List AO) (hp : List AO) (r : Nat), r ∉ rs → (writeBack g rs os hp)[r]? = hp[r]?
  | [], os, hp, r, _ => by cases os <;> simp [writeBack]
  | x :: rs, [], hp, r, _ => by simp [writeBack]
  | x :: rs, o :: os, hp, r, h => by
    simp only [List.mem_cons, not_or] at h
    rw [writeBack, writeBack_other g rs os _ r h.2, List.getElem?_set_ne (Ne.symm h.1)]

theorem writeBack_at (g : AV → AV) : ∀ (rs : List Nat) (os : List AO) (hp : List AO) (r j : Nat) (o : AO), rs.Nodup → rs[j]? = some r → os[j]? = some o → r < hp.length → (writeBack g rs os hp)[r]? = some (AO.sub g o)
  | [], os, hp, r, j, o, _, h, _, _ => by simp at h
  | x :: rs, [], hp, r, j, o, _, _, h, _ => by simp at h
  | x :: rs, o' :: os, hp, r, j, o, hn, h1, h2, hr => by
    rw [List.nodup_cons] at hn
    cases j with
    | zero =>
      simp only [List.getElem?_cons_zero, Option.some.injEq] at h1 h2
      subst h1; subst h2
      rw [writeBack, writeBack_other g rs os _ x hn.1, List.getElem?_set_self hr]
    | succ j =>
      simp only [List.getElem?_cons_succ] at h1 h2
      rw [writeBack]
      exact writeBack_at g rs os _ r j o hn.2 h1 h2 (by simpa using hr)

/-- Where the caller's objects lie behind the call. -/
def blBack (tr : List Nat) (bl bl2 : List (Option Nat)) : List (Option Nat) :=
  (bl.mapIdx fun r b => match idxIn r tr 0 with | some j => (bl2[j]?).join | none => b) ++ bl2.drop tr.length

theorem idxIn_mem {r : Nat} : ∀ (l : List Nat) (i : Nat), r ∈ l → ∃ j, idxIn r l i = some j
  | [], i, h => by simp at h
  | x :: l, i, h => by
    unfold idxIn
    by_cases hx : x = r
    · exact ⟨i, by simp [hx]⟩
    · simp only [if_neg hx]
      rcases List.mem_cons.mp h with h | h
      · exact absurd h.symm hx
      · exact idxIn_mem l (i + 1) h

theorem idxIn_none {r : Nat} (l : List Nat) (i : Nat) (h : r ∉ l) : idxIn r l i = none := by
  induction l generalizing i with
  | nil => rfl
  | cons x l ih =>
    simp only [List.mem_cons, not_or] at h
    unfold idxIn
    rw [if_neg (fun e => h.1 e.symm)]
    exact ih (i + 1) h.2

theorem blBack_old {bl2 : List (Option Nat)} {r : Nat} (hr : r ∉ tr) (hlt : r < bl.length) : (blBack tr bl bl2)[r]? = bl[r]? := by
  unfold blBack
  rw [List.getElem?_append_left (by simpa using hlt), List.getElem?_mapIdx, List.getElem?_eq_getElem hlt]
  simp [idxIn_none tr 0 hr]

theorem blBack_tr {bl2 : List (Option Nat)} {r j : Nat} (hn : tr.Nodup) (hj : tr[j]? = some r) (hlt : r < bl.length) : (blBack tr bl bl2)[r]? = some ((bl2[j]?).join) := by
  obtain ⟨j', hj'⟩ := idxIn_mem tr 0 (List.mem_of_getElem? hj)
  have := nodup_idx hn (idxIn_some0 hj') hj
  subst this
  unfold blBack
  rw [List.getElem?_append_left (by simpa using hlt), List.getElem?_mapIdx, List.getElem?_eq_getElem hlt]
  simp [hj']

theorem blBack_new {bl2 : List (Option Nat)} (q : Nat) : (blBack tr bl bl2)[bl.length + q]? = bl2[tr.length + q]? := by
  unfold blBack
  rw [List.getElem?_append_right (by simp)]
  simp [List.getElem?_drop]

theorem blBack_length {bl2 : List (Option Nat)} : (blBack tr bl bl2).length = bl.length + (bl2.length - tr.length) := by simp [blBack]

/-- The objects behind the call. -/
def hpBack (tr : List Nat) (hp hout : List AO) : List AO :=
  writeBack (gBack tr hp.length) tr (hout.take tr.length) (hp.map (AO.sub (gStale hp tr))) ++ (hout.drop tr.length).map (AO.sub (gBack tr hp.length))

theorem hpBack_old {hout : List AO} {r : Nat} (hr : r ∉ tr) (hlt : r < hp.length) : (hpBack tr hp hout)[r]? = (hp[r]?).map (AO.sub (gStale hp tr)) := by
  unfold hpBack
  rw [List.getElem?_append_left (by rw [writeBack_length]; simpa using hlt), writeBack_other _ _ _ _ _ hr, List.getElem?_map]

theorem hpBack_tr {hout : List AO} {r j : Nat} {o : AO} (hn : tr.Nodup) (hj : tr[j]? = some r) (hlt : r < hp.length) (ho : hout[j]? = some o) : (hpBack tr hp hout)[r]? = some (o.sub (gBack tr hp.length)) := by
  unfold hpBack
  rw [List.getElem?_append_left (by rw [writeBack_length]; simpa using hlt)]
  refine writeBack_at _ _ _ _ r j o hn hj ?_ (by simpa using hlt)
  rw [List.getElem?_take, if_pos (List.getElem?_eq_some_iff.mp hj).1]
  exact ho

theorem hpBack_new {hout : List AO} (q : Nat) : (hpBack tr hp hout)[hp.length + q]? = (hout[tr.length + q]?).map (AO.sub (gBack tr hp.length)) := by
  unfold hpBack
  rw [List.getElem?_append_right (by rw [writeBack_length]; simp)]
  rw [writeBack_length]
  simp [List.getElem?_drop]

theorem hpBack_length {hout : List AO} : (hpBack tr hp hout).length = hp.length + (hout.length - tr.length) := by
  unfold hpBack
  rw [List.length_append, writeBack_length]
  simp

theorem rowShape_sub {hp1 hp2 : List AO} {g : AV → AV} {r r' : Nat} (h : hp2[r']? = (hp1[r]?).map (AO.sub g)) : rowShape hp2 r' = rowShape hp1 r := by
  unfold rowShape
  rw [h]
  cases hp1[r]? with
  | none => rfl
  | some o => cases o <;> rfl

theorem fixed_sub (g : AV → AV) (o : AO) : (o.sub g).fixed = o.fixed := by cases o <;> rfl

/-- The caller goes on in the invariant. -/
theorem back_hsim {bl2 : List (Option Nat)} {w2 : World} {hin hout : List AO} {res : AV} {v : Value} (h : HSim I w bl hp) (htr : tr.Nodup) (hrange : ∀ r ∈ tr, r < hp.length) {bor0 : List Nat}
    (J : Inp) (hJw : J.w0 = w) (hJbl : J.bl0 = tr.map fun r => (bl[r]?).join) (hJin : J.hin = hin) (hinl : hin.length = tr.length)
    (hfix : ∀ (r j : Nat), tr[j]? = some r → isFixed hp r = true → ∃ o, hin[j]? = some o ∧ o.fixed = true)
    (hok0 : (∀ b, J.ok0 b → (I.ok0 b ∨ some b ∈ I.bl0 ∨ I.w0.heap.size ≤ b) ∧ some b ∉ bl) ∨ (res.lists = false ∧ ∀ o ∈ hout, o.lists = false))
    (h2 : HSim J w2 bl2 hout) (hres : Rep (J.env w2 bl2 hout) res v) :
    HSim I w2 (blBack tr bl bl2) (hpBack tr hp hout) ∧ SubOk (I.env w bl hp) (I.env w2 (blBack tr bl bl2) (hpBack tr hp hout)) (gStale hp tr) ∧ Rep (I.env w2 (blBack tr bl bl2) (hpBack tr hp hout)) (res.sub (gBack tr hp.length)) v := by
  have hmany : tr.length ≤ hout.length := by have := h2.many; rw [hJin, hinl] at this; exact this
  have hl2 := h2.len
  have hold : ∀ b, b < w.heap.size → (∀ (r j : Nat), tr[j]? = some r → bl[r]? ≠ some (some b)) → w2.heap[b]? = w.heap[b]? := fun b hb hn => by
    have := h2.old b (by rw [hJw]; exact hb) (fun hm => by
      rw [hJbl] at hm
      obtain ⟨r, j, h3, h4⟩ := tr_mem hm
      exact hn r j h3 h4)
    rwa [hJw] at this
  have hat2 : ∀ (j b : Nat), bl2[j]? = some (some b) → b < w2.heap.size ∧ ((∃ (r j : Nat), tr[j]? = some r ∧ bl[r]? = some (some b)) ∨ w.heap.size ≤ b) := fun j b hj => by
    obtain ⟨h3, h4⟩ := h2.at_ j b hj
    refine ⟨h3, ?_⟩
    rw [hJbl, hJw] at h4
    rcases h4 with h4 | h4
    · exact .inl (tr_mem h4)
    · exact .inr h4
  -- what a place of the caller's holds behind the call
  have hplace : ∀ (r b : Nat), (blBack tr bl bl2)[r]? = some (some b) → (r ∉ tr ∧ bl[r]? = some (some b)) ∨ ∃ j, bl2[j]? = some (some b) ∧ ((tr[j]? = some r) ∨ r = bl.length + (j - tr.length) ∧ tr.length ≤ j) := by
    intro r b hr
    by_cases hlt : r < bl.length
    · by_cases hm : r ∈ tr
      · obtain ⟨j, hj⟩ := List.mem_iff_getElem?.mp hm
        rw [blBack_tr htr hj hlt] at hr
        simp only [Option.some.injEq, Option.join_eq_some_iff] at hr
        exact .inr ⟨j, hr, .inl hj⟩
      · rw [blBack_old hm hlt] at hr
        exact .inl ⟨hm, hr⟩
    · obtain ⟨q, rfl⟩ : ∃ q, r = bl.length + q := ⟨r - bl.length, by omega⟩
      rw [blBack_new] at hr
      exact .inr ⟨tr.length + q, hr, .inr ⟨by omega, by omega⟩⟩
  have hokle : OkLe w (I.ok bl) w2 (I.ok (blBack tr bl bl2)) := fun b hb hlt => by
    refine ⟨⟨hb.1, fun hm => ?_⟩, hold b hlt fun r j _ h3 => hb.2 (List.mem_of_getElem? h3)⟩
    obtain ⟨r, hr⟩ := mem_bl hm
    rcases hplace r b hr with ⟨_, h3⟩ | ⟨j, h3, _⟩
    · exact hb.2 (List.mem_of_getElem? h3)
    · rcases (hat2 j b h3).2 with ⟨r', j', _, h4⟩ | h4
      · exact hb.2 (List.mem_of_getElem? h4)
      · omega
  have hstale : SubOk (I.env w bl hp) (I.env w2 (blBack tr bl bl2) (hpBack tr hp hout)) (gStale hp tr) := by
    have hother : ∀ (r b : Nat), r ∉ tr → bl[r]? = some (some b) → (blBack tr bl bl2)[r]? = some (some b) ∧ w2.heap[b]? = w.heap[b]? := fun r b hm hb => by
      have hlt := (List.getElem?_eq_some_iff.mp hb).1
      refine ⟨by rw [blBack_old hm hlt]; exact hb, hold b (h.at_ r b hb).1 fun r' j hj h3 => ?_⟩
      have := h.inj r' r b h3 hb
      subst this
      exact hm (List.mem_of_getElem? hj)
    refine ⟨hokle, ?_, ?_, ?_⟩
    · intro r lo hi v hv
      simp only [gStale]
      split
      · simp [Rep]
      · rename_i hm
        have hm' : r ∉ tr := by simpa using hm
        simp only [Rep] at hv ⊢
        obtain ⟨sz, n, h3, h4, h5, ad, cap, h6, h7, h8⟩ := hv
        have hlt : r < hp.length := by
          have h3' : rowShape hp r = some (sz, n) := h3
          unfold rowShape at h3'
          cases hq : hp[r]? with
          | none => simp [hq] at h3'
          | some o => exact (List.getElem?_eq_some_iff.mp hq).1
        refine ⟨sz, n, ?_, h4, h5, ad, cap, h6, h7, ?_⟩
        · show rowShape (hpBack tr hp hout) r = _
          rw [rowShape_sub (hpBack_old hm' hlt)]; exact h3
        · rcases h8 with h8 | ⟨b, hb, ha, hs⟩
          · exact .inl h8
          · obtain ⟨h9, h10⟩ := hother r b hm' hb
            refine .inr ⟨b, h9, ha, ?_⟩
            show _ ≤ blockSize w2 b
            unfold blockSize
            rw [h10]; exact hs
    · intro r off v hv
      simp only [gStale]
      split
      · simp [Rep]
      · rename_i hm
        simp only [Rep] at hv ⊢
        obtain ⟨b, hb, rfl⟩ := hv
        have hb' : bl[r]? = some (some b) := hb
        refine ⟨b, ?_, rfl⟩
        show (blBack tr bl bl2)[r]? = _
        by_cases hmt : r ∈ tr
        · have hfx : isFixed hp r = true := by
            cases hq : isFixed hp r
            · exfalso; apply hm; simp [hmt, hq]
            · rfl
          obtain ⟨j, hj⟩ := List.mem_iff_getElem?.mp hmt
          obtain ⟨o, ho1, ho2⟩ := hfix r j hj hfx
          obtain ⟨h3, _⟩ := h2.pin j o (by rw [hJin]; exact ho1) ho2
          rw [blBack_tr htr hj (List.getElem?_eq_some_iff.mp hb').1, h3, hJbl, List.getElem?_map, hj]
          simp [hb']
        · exact (hother r b hmt hb').1
    · intro r i off v hv
      simp only [gStale]
      split
      · simp [Rep]
      · rename_i hm
        have hm' : r ∉ tr := by simpa using hm
        simp only [Rep] at hv ⊢
        obtain ⟨b, sz, n, hb, hs, rfl⟩ := hv
        have hlt : r < hp.length := by
          have h3' : rowShape hp r = some (sz, n) := hs
          unfold rowShape at h3'
          cases hq : hp[r]? with
          | none => simp [hq] at h3'
          | some o => exact (List.getElem?_eq_some_iff.mp hq).1
        refine ⟨b, sz, n, (hother r b hm' hb).1, ?_, rfl⟩
        show rowShape (hpBack tr hp hout) r = _
        rw [rowShape_sub (hpBack_old hm' hlt)]; exact hs
  -- the callee's names, back
  have hname : ∀ (j : Nat), j < hout.length → (∀ (q : Option Nat), bl2[j]? = some q → (blBack tr bl bl2)[backIdx tr hp.length j]? = some q) ∧ (hpBack tr hp hout)[backIdx tr hp.length j]? = (hout[j]?).map (AO.sub (gBack tr hp.length)) := by
    intro j hj
    unfold backIdx
    split
    · rename_i r hr
      have hrl := hrange r (List.mem_of_getElem? hr)
      refine ⟨fun q hq => by rw [blBack_tr htr hr (by rw [h.len]; exact hrl), hq]; rfl, ?_⟩
      rw [List.getElem?_eq_getElem hj]
      exact hpBack_tr htr hr hrl (List.getElem?_eq_getElem hj)
    · rename_i hn
      have hge : tr.length ≤ j := by
        rcases Nat.lt_or_ge j tr.length with hh | hh
        · rw [List.getElem?_eq_getElem hh] at hn; cases hn
        · exact hh
      obtain ⟨q, rfl⟩ : ∃ q, j = tr.length + q := ⟨j - tr.length, by omega⟩
      have e : tr.length + q - tr.length = q := by omega
      rw [e]
      refine ⟨fun q' hq => ?_, hpBack_new q⟩
      rw [← h.len, blBack_new]; exact hq
  have hsr : SubRef (J.env w2 bl2 hout) (I.env w2 (blBack tr bl bl2) (hpBack tr hp hout)) (gBack tr hp.length) := by
    have hsh : ∀ (j : Nat) (x : Nat × Nat), rowShape hout j = some x → j < hout.length := fun j x hx => by
      unfold rowShape at hx
      cases hq : hout[j]? with
      | none => simp [hq] at hx
      | some o => exact (List.getElem?_eq_some_iff.mp hq).1
    refine ⟨?_, ?_, ?_⟩
    · intro r lo hi v hv
      simp only [gBack]
      simp only [Rep] at hv ⊢
      obtain ⟨sz, n, h3, h4, h5, ad, cap, h6, h7, h8⟩ := hv
      have hlt := hsh r _ h3
      refine ⟨sz, n, ?_, h4, h5, ad, cap, h6, h7, ?_⟩
      · show rowShape (hpBack tr hp hout) _ = _
        rw [rowShape_sub (hname r hlt).2]; exact h3
      · rcases h8 with h8 | ⟨b, hb, ha, hs⟩
        · exact .inl h8
        · exact .inr ⟨b, (hname r hlt).1 _ hb, ha, hs⟩
    · intro r off v hv
      simp only [gBack]
      simp only [Rep] at hv ⊢
      obtain ⟨b, hb, rfl⟩ := hv
      have hb' : bl2[r]? = some (some b) := hb
      exact ⟨b, (hname r (by rw [← hl2]; exact (List.getElem?_eq_some_iff.mp hb').1)).1 _ hb, rfl⟩
    · intro r i off v hv
      simp only [gBack]
      simp only [Rep] at hv ⊢
      obtain ⟨b, sz, n, hb, hs, rfl⟩ := hv
      have hlt := hsh r _ hs
      refine ⟨b, sz, n, (hname r hlt).1 _ hb, ?_, rfl⟩
      show rowShape (hpBack tr hp hout) _ = _
      rw [rowShape_sub (hname r hlt).2]; exact hs
  have hback : (∀ (a : AV) (v : Value), (a = res ∨ False) → Rep (J.env w2 bl2 hout) a v → Rep (I.env w2 (blBack tr bl bl2) (hpBack tr hp hout)) (a.sub (gBack tr hp.length)) v) ∧
      (∀ (b : Option Nat) (o : AO), o ∈ hout → ORep (J.env w2 bl2 hout) b o → ORep (I.env w2 (blBack tr bl bl2) (hpBack tr hp hout)) b (o.sub (gBack tr hp.length))) := by
    rcases hok0 with hok0 | ⟨hf1, hf2⟩
    · have hle : OkLe w2 (J.ok bl2) w2 (I.ok (blBack tr bl bl2)) := fun b hb hlt => by
        have base : (I.ok0 b ∨ some b ∈ I.bl0 ∨ I.w0.heap.size ≤ b) := by
          rcases hb.1 with h3 | h3 | h3
          · exact (hok0 b h3).1
          · rw [hJbl] at h3
            obtain ⟨r, j, _, h4⟩ := tr_mem h3
            rcases (h.at_ r b h4).2 with h5 | h5
            · exact .inr (.inl h5)
            · exact .inr (.inr h5)
          · rw [hJw] at h3; exact .inr (.inr (Nat.le_trans h.le h3))
        refine ⟨⟨base, fun hm => ?_⟩, rfl⟩
        obtain ⟨r, hr⟩ := mem_bl hm
        rcases hplace r b hr with ⟨hm', h3⟩ | ⟨j, h3, _⟩
        · rcases hb.1 with h4 | h4 | h4
          · exact (hok0 b h4).2 (List.mem_of_getElem? h3)
          · rw [hJbl] at h4
            obtain ⟨r', j, hj, h5⟩ := tr_mem h4
            have := h.inj r' r b h5 h3
            subst this
            exact hm' (List.mem_of_getElem? hj)
          · rw [hJw] at h4
            have := (h.at_ r b h3).1
            omega
        · exact hb.2 (List.mem_of_getElem? h3)
      have hso : SubOk (J.env w2 bl2 hout) (I.env w2 (blBack tr bl bl2) (hpBack tr hp hout)) (gBack tr hp.length) := ⟨hle, hsr.view, hsr.ptr, hsr.rptr⟩
      exact ⟨fun a v _ hr => Rep.sub hso a v hr, fun b o _ hr => hr.sub hso (fun _ _ => rfl)⟩
    · exact ⟨fun a v ha hr => by rcases ha with rfl | ha; exact Rep.subFree hsr a v hf1 hr; exact ha.elim, fun b o ho hr => hr.subFree hsr (hf2 o ho) (fun _ _ => rfl)⟩
  refine ⟨h.ext hstale ?_ ?_ ?_ ?_ ?_ ?_ ?_ ?_ ?_ ?_ ?_, hstale, hback.1 res v (.inl rfl) hres⟩
  · rw [blBack_length, hpBack_length, h.len, hl2]
  · rw [hpBack_length]; omega
  · intro r r' b h3 h4
    rcases hplace r b h3 with ⟨hm1, h5⟩ | ⟨j1, h5, h6⟩ <;> rcases hplace r' b h4 with ⟨hm2, h7⟩ | ⟨j2, h7, h8⟩
    · exact h.inj r r' b h5 h7
    · exfalso
      rcases (hat2 j2 b h7).2 with ⟨r3, j3, h9, h10⟩ | h9
      · have := h.inj r3 r b h10 h5
        subst this
        exact hm1 (List.mem_of_getElem? h9)
      · have := (h.at_ r b h5).1; omega
    · exfalso
      rcases (hat2 j1 b h5).2 with ⟨r3, j3, h9, h10⟩ | h9
      · have := h.inj r3 r' b h10 h7
        subst this
        exact hm2 (List.mem_of_getElem? h9)
      · have := (h.at_ r' b h7).1; omega
    · have := h2.inj j1 j2 b h5 h7
      subst this
      rcases h6 with h6 | ⟨h6, h6'⟩ <;> rcases h8 with h8 | ⟨h8, h8'⟩
      · rw [h6] at h8; simpa using h8
      · have := (List.getElem?_eq_some_iff.mp h6).1; omega
      · have := (List.getElem?_eq_some_iff.mp h8).1; omega
      · omega
  · intro r b h3
    rcases hplace r b h3 with ⟨hm1, h5⟩ | ⟨j1, h5, h6⟩
    · have := h.at_ r b h5
      have hsz : w.heap.size ≤ w2.heap.size := by have := h2.le; rwa [hJw] at this
      exact ⟨Nat.lt_of_lt_of_le this.1 hsz, this.2⟩
    · obtain ⟨h7, h8⟩ := hat2 j1 b h5
      refine ⟨h7, ?_⟩
      rcases h8 with ⟨r3, j3, _, h10⟩ | h9
      · exact (h.at_ r3 b h10).2
      · exact .inr (Nat.le_trans h.le h9)
  · intro r o hr
    by_cases hlt : r < hp.length
    · by_cases hm : r ∈ tr
      · left
        obtain ⟨j, hj⟩ := List.mem_iff_getElem?.mp hm
        have hjl : j < hout.length := by have := (List.getElem?_eq_some_iff.mp hj).1; omega
        rw [hpBack_tr htr hj hlt (List.getElem?_eq_getElem hjl)] at hr
        simp only [Option.some.injEq] at hr
        subst hr
        rw [blBack_tr htr hj (by rw [h.len]; exact hlt)]
        have := h2.obj j _ (List.getElem?_eq_getElem hjl)
        exact hback.2 _ _ (List.getElem_mem hjl) this
      · right
        rw [hpBack_old hm hlt, List.getElem?_eq_getElem hlt] at hr
        simp only [Option.map_some, Option.some.injEq] at hr
        refine ⟨r, hp[r], List.getElem?_eq_getElem hlt, hr.symm, by rw [blBack_old hm (by rw [h.len]; exact hlt)], fun k hk => ?_⟩
        rw [Option.join_eq_some_iff] at hk
        refine hold k (h.at_ r k hk).1 fun r' j hj h3 => ?_
        have := h.inj r' r k h3 hk
        subst this
        exact hm (List.mem_of_getElem? hj)
    · left
      obtain ⟨q, rfl⟩ : ∃ q, r = hp.length + q := ⟨r - hp.length, by omega⟩
      rw [hpBack_new] at hr
      cases hq : hout[tr.length + q]? with
      | none => simp [hq] at hr
      | some o1 =>
        rw [hq] at hr
        simp only [Option.map_some, Option.some.injEq] at hr
        subst hr
        have e : (blBack tr bl bl2)[hp.length + q]? = bl2[tr.length + q]? := by rw [← h.len, blBack_new]
        rw [e]
        exact hback.2 _ _ (List.mem_of_getElem? hq) (h2.obj _ _ hq)
  · have := h2.le; rwa [hJw] at this
  · intro b hb hn
    refine hold b (Nat.lt_of_lt_of_le hb h.le) fun r j _ h3 => ?_
    rcases (h.at_ r b h3).2 with h4 | h4
    · exact hn h4
    · omega
  · have := h2.os; rw [hJw] at this; exact this
  · have := h2.tape; rw [hJw] at this; exact this
  · have := h2.output; rw [hJw] at this; exact this
  · intro j o o1 hj hf hj1 hf1
    have hlt := (List.getElem?_eq_some_iff.mp hj1).1
    by_cases hm : j ∈ tr
    · obtain ⟨i, hi⟩ := List.mem_iff_getElem?.mp hm
      have hfx : isFixed hp j = true := by
        unfold isFixed
        rw [hj1]
        cases o1 <;> simp_all [AO.fixed]
      obtain ⟨o2, ho1, ho2⟩ := hfix j i hi hfx
      obtain ⟨h3, o3, h4, h5⟩ := h2.pin i o2 (by rw [hJin]; exact ho1) ho2
      refine ⟨?_, _, hpBack_tr htr hi hlt h4, by rw [fixed_sub]; exact h5⟩
      rw [blBack_tr htr hi (by rw [h.len]; exact hlt), h3, hJbl, List.getElem?_map, hi]
      have hlt' : j < bl.length := by rw [h.len]; exact hlt
      simp [hlt']
    · refine ⟨blBack_old hm (by rw [h.len]; exact hlt), _, by rw [hpBack_old hm hlt, hj1]; rfl, by rw [fixed_sub]; exact hf1⟩

end
end Go.Cellar
