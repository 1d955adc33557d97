/- Objects dropped, renumbered, cut to their views; a function's results. No condition. -/
import Derived.Test.YtjdjmbogopadaaaGreatDoorAbs15

set_option linter.unusedVariables false
set_option linter.unusedSimpArgs false
namespace Go.Cellar
open Go

theorem addNew_prefix : ∀ (xs l : List Nat), ∃ r, addNew l xs = l ++ r
  | [], l => ⟨[], by simp [addNew]⟩
  | x :: xs, l => by
    unfold addNew
    split
    · exact addNew_prefix xs l
    · obtain ⟨r, hr⟩ := addNew_prefix xs (l ++ [x])
      exact ⟨x :: r, by rw [hr]; simp⟩

theorem reach_prefix (hp : List AO) : ∀ (n : Nat) (l : List Nat), ∃ r, reach hp n l = l ++ r
  | 0, l => ⟨[], by simp [reach]⟩
  | n + 1, l => by
    unfold reach
    obtain ⟨r1, h1⟩ := addNew_prefix (l.flatMap (objRefs hp)) l
    obtain ⟨r2, h2⟩ := reach_prefix hp n (addNew l (l.flatMap (objRefs hp)))
    exact ⟨r1 ++ r2, by rw [h2, h1]; simp⟩

/-- Objects kept: each once, those that came in at their places. -/
structure KeepOk (m : Nat) (keep : List Nat) : Prop where
  nodup : keep.Nodup
  first : ∀ j, j < m → keep[j]? = some j

theorem keepOk_reach (hp : List AO) (n m : Nat) (l : List Nat) : KeepOk m (reach hp n (addNew (List.range m) l)) := by
  refine ⟨reach_nodup _ _ _ (addNew_nodup _ _ List.nodup_range), fun j hj => ?_⟩
  obtain ⟨r1, h1⟩ := addNew_prefix l (List.range m)
  obtain ⟨r2, h2⟩ := reach_prefix hp n (addNew (List.range m) l)
  rw [h2, h1, List.append_assoc, List.getElem?_append_left (by simpa using hj)]
  simp [hj]

section
variable {P : Program} {I : Inp} {w : World} {bl : List (Option Nat)} {s : St} {tmps : List Value} {hp : List AO}

theorem getElem?_keep {keep : List Nat} {j : Nat} : (keepObjs keep hp)[j]? = (keep[j]?).map fun r => AO.sub (gRen keep) (hp.getD r .dead) := by
  unfold keepObjs; rw [List.getElem?_map]

theorem HSim.keep (h : HSim I w bl hp) {keep : List Nat} (hk : KeepOk I.hin.length keep) :
    HSim I w (keep.map fun r => (bl[r]?).join) (keepObjs keep hp) ∧ SubOk (I.env w bl hp) (I.env w (keep.map fun r => (bl[r]?).join) (keepObjs keep hp)) (gRen keep) := by
  have hback : ∀ (j b : Nat), (keep.map fun r => (bl[r]?).join)[j]? = some (some b) → ∃ r : Nat, keep[j]? = some r ∧ bl[r]? = some (some b) := fun j b hj => by
    rw [List.getElem?_map] at hj
    cases h2 : keep[j]? with
    | none => simp [h2] at hj
    | some r =>
      rw [h2] at hj
      simp only [Option.map_some, Option.some.injEq, Option.join_eq_some_iff] at hj
      exact ⟨r, rfl, hj⟩
  have hfwd : ∀ (r j b : Nat), keep[j]? = some r → bl[r]? = some (some b) → (keep.map fun r => (bl[r]?).join)[j]? = some (some b) := fun r j b h1 h2 => by
    rw [List.getElem?_map, h1]; simp [h2]
  have hsh : ∀ (r j : Nat), keep[j]? = some r → rowShape (keepObjs keep hp) j = rowShape hp r := fun r j hj => by
    unfold rowShape
    rw [getElem?_keep, hj]
    simp only [Option.map_some, List.getD_eq_getElem?_getD]
    cases hp[r]? with
    | none => rfl
    | some o => cases o <;> rfl
  have hsub : SubOk (I.env w bl hp) (I.env w (keep.map fun r => (bl[r]?).join) (keepObjs keep hp)) (gRen keep) := by
    refine ⟨fun b hb hlt => ⟨⟨hb.1, fun hm => ?_⟩, rfl⟩, ?_, ?_, ?_⟩
    · obtain ⟨j, hj⟩ := mem_bl hm
      obtain ⟨r, _, h2⟩ := hback j b hj
      exact hb.2 (List.mem_of_getElem? h2)
    · intro r lo hi v hv
      simp only [gRen]
      split
      · rename_i j hj
        have hj' := idxIn_some0 hj
        simp only [Rep] at hv ⊢
        obtain ⟨sz, n, h3, h4, h5, ad, cap, h6, h7, h8⟩ := hv
        refine ⟨sz, n, (hsh r j hj').trans h3, h4, h5, ad, cap, h6, h7, ?_⟩
        rcases h8 with h8 | ⟨b, hb, ha, hs⟩
        · exact .inl h8
        · exact .inr ⟨b, hfwd r j b hj' hb, ha, hs⟩
      · simp [Rep]
    · intro r off v hv
      simp only [gRen]
      split
      · rename_i j hj
        have hj' := idxIn_some0 hj
        simp only [Rep] at hv ⊢
        obtain ⟨b, hb, rfl⟩ := hv
        exact ⟨b, hfwd r j b hj' hb, rfl⟩
      · simp [Rep]
    · intro r i off v hv
      simp only [gRen]
      split
      · rename_i j hj
        have hj' := idxIn_some0 hj
        simp only [Rep] at hv ⊢
        obtain ⟨b, sz, n, hb, hs, rfl⟩ := hv
        exact ⟨b, sz, n, hfwd r j b hj' hb, (hsh r j hj').trans hs, rfl⟩
      · simp [Rep]
  have hlen : I.hin.length ≤ keep.length := by
    rcases Nat.lt_or_ge keep.length I.hin.length with hlt | hge
    · have := hk.first keep.length hlt
      simp at this
    · exact hge
  refine ⟨⟨by simp [keepObjs], by simpa [keepObjs] using hlen, ?_, ?_, ?_, h.le, h.old, h.os, h.tape, h.output, ?_⟩, hsub⟩
  · intro j j' b h1 h2
    obtain ⟨r, h3, h4⟩ := hback j b h1
    obtain ⟨r', h5, h6⟩ := hback j' b h2
    have := h.inj r r' b h4 h6
    subst this
    exact nodup_idx hk.nodup h3 h5
  · intro j b h1
    obtain ⟨r, _, h4⟩ := hback j b h1
    exact h.at_ r b h4
  · intro j o hj
    rw [getElem?_keep] at hj
    cases h2 : keep[j]? with
    | none => simp [h2] at hj
    | some r =>
      rw [h2] at hj
      simp only [Option.map_some, Option.some.injEq] at hj
      subst hj
      have e : (keep.map fun r => (bl[r]?).join)[j]?.join = (bl[r]?).join := by rw [List.getElem?_map, h2]; simp
      rw [e, List.getD_eq_getElem?_getD]
      cases h5 : hp[r]? with
      | none => simp [AO.sub, ORep]
      | some o0 => exact (h.obj r o0 h5).sub hsub (fun _ _ => rfl)
  · intro j o h1 h2
    have hj := hk.first j (List.getElem?_eq_some_iff.mp h1).1
    obtain ⟨h3, o1, h4, h5⟩ := h.pin j o h1 h2
    have hlt : j < bl.length := by rw [h.len]; exact (List.getElem?_eq_some_iff.mp h4).1
    refine ⟨?_, o1.sub (gRen keep), ?_, by rw [fixed_sub]; exact h5⟩
    · rw [List.getElem?_map, hj, ← h3]
      simp [hlt]
    · rw [getElem?_keep, hj]
      simp [h4]

/-! ### rows cut to their one view -/

theorem countRef_append (r : Nat) (a b : List Nat) : countRef r (a ++ b) = countRef r a + countRef r b := by simp [countRef, List.filter_append]
theorem countRef_zero {r : Nat} {l : List Nat} (h : countRef r l = 0) : r ∉ l := by
  intro hm
  have : r ∈ l.filter fun x => decide (x = r) := by simp [hm]
  rw [List.eq_nil_of_length_eq_zero h] at this
  simp at this

mutual
theorem purge_id {r : Nat} : ∀ (a : AV), r ∉ a.refs → a.sub (gPurge r) = a
  | .junk, _ | .int _ _, _ | .bool _, _ | .str _, _ | .list _ _ _, _ | .nils, _ | .iptr _, _ | .nilp, _ | .nilf, _ | .nili, _ | .maybe _, _ => by simp [AV.sub]
  | .view r' lo hi, h => by simp only [AV.refs, List.mem_singleton] at h; simp [AV.sub, gPurge, Ne.symm h]
  | .ptr r' off, h => by simp only [AV.refs, List.mem_singleton] at h; simp [AV.sub, gPurge, Ne.symm h]
  | .rptr r' i off, h => by simp only [AV.refs, List.mem_singleton] at h; simp [AV.sub, gPurge, Ne.symm h]
  | .func fn f c, h => by simp only [AV.refs, List.mem_append, not_or] at h; simp [AV.sub, purgeL_id f h.1, purgeL_id c h.2]
  | .agg cs, h => by simp only [AV.refs] at h; simp [AV.sub, purgeL_id cs h]
  | .tup cs, h => by simp only [AV.refs] at h; simp [AV.sub, purgeL_id cs h]
theorem purgeL_id {r : Nat} : ∀ (as : List AV), r ∉ AV.refsL as → AV.subL (gPurge r) as = as
  | [], _ => by simp [AV.subL]
  | a :: as, h => by simp only [AV.refsL, List.mem_append, not_or] at h; simp [AV.subL, purge_id a h.1, purgeL_id as h.2]
end

theorem purgeO_id {r : Nat} (o : AO) (h : r ∉ o.refs) : o.sub (gPurge r) = o := by
  cases o with
  | box cs => simp only [AO.refs] at h; simp [AO.sub, purgeL_id cs h]
  | bld T v => simp only [AO.refs] at h; simp [AO.sub, purge_id v h]
  | _ => rfl

theorem purgeH_id {r : Nat} (hp : List AO) (h : r ∉ hp.flatMap AO.refs) : hp.map (AO.sub (gPurge r)) = hp := by
  have : ∀ o ∈ hp, AO.sub (gPurge r) o = o := fun o ho => purgeO_id o fun hm => h (List.mem_flatMap.mpr ⟨o, ho, hm⟩)
  calc hp.map (AO.sub (gPurge r)) = hp.map id := List.map_congr_left this
    _ = hp := List.map_id hp

theorem trimRow_refs {r h : Nat} {hp : List AO} : (trimRow hp r h).flatMap AO.refs = hp.flatMap AO.refs := by
  unfold trimRow
  split
  · rename_i t l hr
    induction hp generalizing r with
    | nil => simp at hr
    | cons o hp ih =>
      cases r with
      | zero => simp at hr; subst hr; simp [AO.refs]
      | succ r => simp only [List.set_cons_succ, List.flatMap_cons]; rw [ih (by simpa using hr)]
  · rfl

theorem RepL.append_inv {E : Env} : ∀ {as bs : List AV} {vs : List Value}, RepL E (as ++ bs) vs → ∃ us ws, vs = us ++ ws ∧ RepL E as us ∧ RepL E bs ws
  | [], bs, vs, h => ⟨[], vs, rfl, by simp [RepL], h⟩
  | a :: as, bs, vs, h => by
    simp only [List.cons_append, RepL] at h
    obtain ⟨v, vs', rfl, h1, h2⟩ := h
    obtain ⟨us, ws, rfl, h3, h4⟩ := RepL.append_inv h2
    exact ⟨v :: us, ws, rfl, ⟨v, us, rfl, h1, h3⟩, h4⟩

theorem HSim.trim1 (h : HSim I w bl hp) {r q : Nat} {as bs : List AV} {us : List Value} (hr : isRow hp r = true)
    (hrep : RepL (I.env w bl hp) (as ++ .view r 0 (some q) :: bs) us) (hc : countRef r (AV.refsL (as ++ .view r 0 (some q) :: bs) ++ hp.flatMap AO.refs) ≤ 1) :
    HSim I w bl (trimRow hp r q) ∧ RepL (I.env w bl (trimRow hp r q)) (as ++ .view r 0 none :: bs) us := by
  unfold isRow at hr
  split at hr
  · rename_i t l ho
    have hrl : r < bl.length := by rw [h.len]; exact (List.getElem?_eq_some_iff.mp ho).1
    have hcount : countRef r (AV.refsL as) = 0 ∧ countRef r (AV.refsL bs) = 0 ∧ countRef r (hp.flatMap AO.refs) = 0 := by
      rw [AV.refsL_append, countRef_append, countRef_append] at hc
      simp only [AV.refsL, AV.refs, countRef_append] at hc
      have : countRef r [r] = 1 := by simp [countRef]
      omega
    obtain ⟨hc1, hc2, hc3⟩ := hcount
    have hp1 := purgeH_id hp (countRef_zero hc3)
    have ht : trimRow hp r q = (hp.map (AO.sub (gPurge r))).set r (.row t (l.take q)) := by rw [hp1]; simp [trimRow, ho]
    obtain ⟨us1, us2, rfl, hr1, hr2⟩ := hrep.append_inv
    simp only [RepL] at hr2
    obtain ⟨v, us3, rfl, hv, hr3⟩ := hr2
    have hv0 := hv
    simp only [Rep] at hv
    obtain ⟨sz, n, h1, h2, h3, ad, cap, h4, h5, h6⟩ := hv
    have h1' : rowShape hp r = some (sz, n) := h1
    simp only [rowShape, ho, Option.some.injEq, Prod.mk.injEq] at h1'
    obtain ⟨rfl, rfl⟩ := h1'
    simp only [Option.getD_some] at h2 h3 h4 h5
    have hobj := h.obj r _ ho
    have hbl : bl.set r ((bl[r]?).join) = bl := by
      have : (bl[r]?).join = bl[r] := by rw [List.getElem?_eq_getElem hrl]; rfl
      rw [this, List.set_getElem_self]
    obtain ⟨h7, h8⟩ := h.move (w' := w) r (.row t l) (.row t (l.take q)) ho ((bl[r]?).join) (fun _ _ _ => rfl) (Nat.le_refl _) rfl rfl rfl
      (fun k hk => by rw [Option.join_eq_some_iff] at hk; exact ⟨(h.at_ r k hk).1, .inl hk⟩) (fun hf => by cases hf) (fun hsub => by
        rcases hobj with ⟨h9, h10⟩ | ⟨k, vs, e, h9, h10, h11⟩
        · exact .inl ⟨h9, by rw [h10]; simp⟩
        · exact .inr ⟨k, vs, e, h9, h10, (h11.take q).mono hsub.ok⟩)
    rw [hbl, ← ht] at h7 h8
    refine ⟨h7, ?_⟩
    have e1 := RepL.sub h8 _ _ hr1
    have e2 := RepL.sub h8 _ _ hr3
    rw [purgeL_id _ (countRef_zero hc1)] at e1
    rw [purgeL_id _ (countRef_zero hc2)] at e2
    refine e1.append ⟨v, us3, rfl, ?_, e2⟩
    simp only [Rep]
    have hlen : (l.take q).length = q := by simp; omega
    refine ⟨t.size, q, ?_, by simp, by simp, ad, cap, by simpa using h4, by simpa using h5, ?_⟩
    · show rowShape (trimRow hp r q) r = _
      have hlt := (List.getElem?_eq_some_iff.mp ho).1
      have e1 : (hp.set r (.row t (l.take q)))[r]? = some (.row t (l.take q)) := List.getElem?_set_self hlt
      unfold trimRow rowShape
      rw [ho]
      simp only [e1, hlen]
    · rcases h6 with h6 | ⟨b, hb, ha, hs⟩
      · exact .inl h6
      · exact .inr ⟨b, hb, ha, hs⟩
  · cases hr

theorem trimAll_other {v : AV} {vs : List AV} {all : List Nat} {hp : List AO} (h : ¬ ∃ r q, v = .view r 0 (some q)) : trimAll (v :: vs) all hp = (v :: (trimAll vs all hp).1, (trimAll vs all hp).2) := by
  cases v with
  | view r lo hi =>
    cases lo with
    | zero =>
      cases hi with
      | none => simp [trimAll]
      | some q => exact absurd ⟨r, q, rfl⟩ h
    | succ lo => simp [trimAll]
  | _ => simp [trimAll]

theorem trimAll_ok : ∀ (vs as : List AV) (all : List Nat) (hp : List AO) (us : List Value), HSim I w bl hp → RepL (I.env w bl hp) (as ++ vs) us →
    (∀ r, countRef r (AV.refsL (as ++ vs) ++ hp.flatMap AO.refs) ≤ countRef r all) →
    HSim I w bl (trimAll vs all hp).2 ∧ RepL (I.env w bl (trimAll vs all hp).2) (as ++ (trimAll vs all hp).1) us
  | [], as, all, hp, us, h, hr, hc => ⟨h, hr⟩
  | v :: vs, as, all, hp, us, h, hr, hc => by
    have step : ∀ (v' : AV) (hp' : List AO), HSim I w bl hp' → RepL (I.env w bl hp') (as ++ v' :: vs) us → (∀ r, countRef r (AV.refsL (as ++ v' :: vs) ++ hp'.flatMap AO.refs) ≤ countRef r all) →
        HSim I w bl (trimAll vs all hp').2 ∧ RepL (I.env w bl (trimAll vs all hp').2) (as ++ v' :: (trimAll vs all hp').1) us := fun v' hp' h1 h2 h3 => by
      have e : ∀ l : List AV, as ++ v' :: l = (as ++ [v']) ++ l := fun l => by simp
      rw [e] at h2 ⊢
      exact trimAll_ok vs (as ++ [v']) all hp' us h1 h2 (fun r => by rw [← e]; exact h3 r)
    have plain : HSim I w bl (trimAll vs all hp).2 ∧ RepL (I.env w bl (trimAll vs all hp).2) (as ++ v :: (trimAll vs all hp).1) us := step v hp h hr hc
    by_cases hsp : ∃ r q, v = .view r 0 (some q)
    · obtain ⟨r, q, rfl⟩ := hsp
      simp only [trimAll]
      split
      · rename_i hcond
        obtain ⟨hc1, hc2⟩ := hcond
        obtain ⟨h3, h4⟩ := h.trim1 hc2 hr (by rw [← hc1]; exact hc r)
        refine step (.view r 0 none) (trimRow hp r q) h3 h4 fun r' => ?_
        have := hc r'
        rw [trimRow_refs]
        simpa [AV.refsL_append, AV.refsL, AV.refs] using this
      · exact plain
    · rw [trimAll_other hsp]; exact plain

end
end Go.Cellar

/- Cuts and results, whole. No condition. -/
set_option linter.unusedVariables false
set_option linter.unusedSimpArgs false
namespace Go.Cellar
open Go

section
variable {P : Program} {I : Inp} {w : World} {bl : List (Option Nat)} {s : St} {tmps : List Value} {hp : List AO}

theorem canon_rep {E : Env} {t : TypeId} {v : AV} {u : Value} (h : Rep E v u) : Rep E (canon P t v) u := by
  unfold canon
  split
  · rename_i ty hty
    split
    · rename_i hag
      have hag' : v.isAgg = ty.isAgg := by simpa using hag
      split
      · rename_i x hx
        have hr := Rep.of hx h
        have hl := RepT.toL (E := E) ty x _ hr
        unfold Ty.av
        cases hty2 : ty.isAgg
        · -- one cell
          rw [hty2] at hag'
          have hone : u.cells.toList = [u] := by
            have hs : v.solid = true := by
              unfold Ty.of at hx
              split at hx
              · assumption
              · cases hx
            have h1 : v.one = true := by cases v <;> simp_all [AV.one, AV.solid, AV.isAgg]
            have := one_oneCell h1 h
            cases u <;> simp_all [Value.oneCell', Value.cells]
          rw [hone] at hl
          have hlen := hl.length
          simp only
          match hc : ty.cells x, hl, hlen with
          | [a], hl, _ => obtain ⟨u', h1, h2⟩ := hl.one_inv; simp only [List.cons.injEq, and_true] at h1; subst h1; exact h2
          | [], _, hlen => simp at hlen
          | _ :: _ :: _, _, hlen => simp at hlen
        · rw [hty2] at hag'
          have : ∃ cs, v = .agg cs := by cases v <;> simp_all [AV.isAgg]
          obtain ⟨cs, rfl⟩ := this
          simp only [Rep] at h
          obtain ⟨vs, rfl, _⟩ := h
          simp only [Rep]
          exact ⟨vs, rfl, by simpa [Value.cells] using hl⟩
      · exact h
    · exact h
  · exact h

theorem canonArgs_rep {E : Env} : ∀ (ts : List TypeId) (vs : List AV) (us : List Value), RepL E vs us → RepL E (canonArgs P ts vs) us
  | [], vs, us, h => by simpa [canonArgs] using h
  | t :: ts, [], us, h => by simpa [canonArgs] using h
  | t :: ts, v :: vs, us, h => by
    simp only [RepL] at h
    obtain ⟨u, us', rfl, h1, h2⟩ := h
    exact ⟨u, us', rfl, canon_rep h1, canonArgs_rep ts vs us' h2⟩

theorem unfull_rep {E : Env} {v : AV} {u : Value} (h : Rep E v u) : Rep E (unfull v) u := by
  unfold unfull
  split
  · simp only [Rep] at h ⊢; exact ⟨h.1, by simp⟩
  · exact h

theorem unfullL_rep {E : Env} : ∀ (vs : List AV) (us : List Value), RepL E vs us → RepL E (vs.map unfull) us
  | [], us, h => by simpa using h
  | v :: vs, us, h => by
    simp only [RepL] at h
    obtain ⟨u, us', rfl, h1, h2⟩ := h
    exact ⟨u, us', rfl, unfull_rep h1, unfullL_rep vs us' h2⟩

theorem ownNil_other {t : TypeId} {ts : List TypeId} {v : AV} {vs : List AV} {hp : List AO} (h1 : v ≠ .nils) (h2 : ∀ r lo hi, v ≠ .view r lo hi) :
    ownNil P (t :: ts) (v :: vs) hp = (canon P t v :: (ownNil P ts vs hp).1, (ownNil P ts vs hp).2) := by
  cases v <;> simp_all [ownNil]

theorem ownNil_ok : ∀ (ts : List TypeId) (vs as : List AV) (hp : List AO) (bl : List (Option Nat)) (us : List Value), HSim I w bl hp → RepL (I.env w bl hp) (as ++ vs) us →
    ∃ bl', HSim I w bl' (ownNil P ts vs hp).2 ∧ RepL (I.env w bl' (ownNil P ts vs hp).2) (as ++ (ownNil P ts vs hp).1) us
  | [], vs, as, hp, bl, us, h, hr => ⟨bl, by simpa [ownNil] using h, by simpa [ownNil] using hr⟩
  | t :: ts, [], as, hp, bl, us, h, hr => ⟨bl, by simpa [ownNil] using h, by simpa [ownNil] using hr⟩
  | t :: ts, v :: vs, as, hp, bl, us, h, hr => by
    have step : ∀ (v' : AV) (hp' : List AO) (bl' : List (Option Nat)), HSim I w bl' hp' → RepL (I.env w bl' hp') (as ++ v' :: vs) us →
        ∃ bl', HSim I w bl' (ownNil P ts vs hp').2 ∧ RepL (I.env w bl' (ownNil P ts vs hp').2) (as ++ v' :: (ownNil P ts vs hp').1) us := fun v' hp' bl' h1 h2 => by
      have e : ∀ l : List AV, as ++ v' :: l = (as ++ [v']) ++ l := fun l => by simp
      rw [e] at h2
      obtain ⟨bl2, h3, h4⟩ := ownNil_ok ts vs (as ++ [v']) hp' bl' us h1 h2
      exact ⟨bl2, h3, by rw [e]; exact h4⟩
    by_cases h1 : v = .nils
    · subst h1
      have plain := step .nils hp bl h hr
      simp only [ownNil]
      split
      · split
        · rename_i e _ ty _
          obtain ⟨h5, h6⟩ := h.ghost ty
          refine step (.view hp.length 0 none) _ _ h5 ?_
          obtain ⟨us1, us2, rfl, h7, h8⟩ := hr.append_inv
          simp only [RepL, Rep] at h8
          obtain ⟨v0, us3, rfl, rfl, h9⟩ := h8
          refine (RepL.mono h6 h7).append ⟨_, us3, rfl, ?_, RepL.mono h6 h9⟩
          simp only [Rep]
          refine ⟨ty.size, 0, ?_, by simp, by simp, none, 0, by simp, Nat.le_refl _, .inl rfl⟩
          show rowShape (hp ++ [_]) hp.length = _
          simp [rowShape]
        · exact plain
      · exact plain
    · by_cases h2 : ∃ r lo hi, v = .view r lo hi
      · obtain ⟨r, lo, hi, rfl⟩ := h2
        have plain := step (.view r lo hi) hp bl h hr
        simp only [ownNil]
        exact plain
      · rw [ownNil_other h1 (fun r lo hi e => h2 ⟨r, lo, hi, e⟩)]
        refine step (canon P t v) hp bl h ?_
        obtain ⟨us1, us2, rfl, h7, h8⟩ := hr.append_inv
        simp only [RepL] at h8
        obtain ⟨v0, us3, rfl, h9, h10⟩ := h8
        exact h7.append ⟨v0, us3, rfl, canon_rep h9, h10⟩

/-! ### cuts -/

theorem RepL.setJunk {E : Env} {as : List AV} {vs : List Value} (h : RepL E as vs) (t : Nat) {a : AV} (ha : ∀ v, vs[t]? = some v → Rep E a v) : RepL E (as.set t a) vs := by
  by_cases ht : t < vs.length
  · have := h.set t (ha _ (List.getElem?_eq_getElem ht))
    rwa [List.set_getElem_self] at this
  · have hl := h.length
    rw [List.set_eq_of_length_le (by omega)]
    exact h

theorem slot {E : Env} {as : List AV} {vs : List Value} (h : RepL E as vs) {t : Nat} {a : AV} (ha : as.getD t .junk = a) : ∀ v, vs[t]? = some v → Rep E a v := by
  intro v hv
  obtain ⟨h1, rfl⟩ := List.getElem?_eq_some_iff.mp hv
  have hl := h.length
  have h2 : t < as.length := by omega
  have := h.get t h2 h1
  rw [List.getD_eq_getElem?_getD, List.getElem?_eq_getElem h2] at ha
  simp only [Option.getD_some] at ha
  rw [← ha]; exact this

theorem coerce1_ok (h : Sim I w bl s tmps) (c : Co) : ∃ bl', Sim I w bl' (coerce1 s c) tmps := by
  cases c with
  | own t ty =>
    simp only [coerce1]
    split
    · rename_i hn
      obtain ⟨h1, h2⟩ := h.h.ghost ty
      refine ⟨_, h1, ?_, h.m⟩
      refine RepL.setJunk (RepL.mono h2 h.tm) t fun v hv => ?_
      have hs := slot h.tm hn v hv
      simp only [Rep] at hs ⊢
      subst hs
      refine ⟨ty.size, 0, ?_, by simp, by simp, none, 0, by simp, Nat.le_refl _, .inl rfl⟩
      show rowShape (s.hp ++ [_]) s.hp.length = _
      simp [rowShape]
    · exact ⟨bl, h⟩
  | list t ty =>
    simp only [coerce1]
    split
    · rename_i hn
      refine ⟨bl, h.h, RepL.setJunk h.tm t fun v hv => ?_, h.m⟩
      have hs := slot h.tm hn v hv
      simp only [Rep] at hs ⊢
      subst hs
      exact ⟨nil_of_row (E := I.env w bl s.hp) ty none, by simp⟩
    · rename_i ty' l f hn
      refine ⟨bl, h.h, RepL.setJunk h.tm t fun v hv => ?_, h.m⟩
      have hs := slot h.tm hn v hv
      simp only [Rep] at hs ⊢
      exact ⟨hs.1, by simp⟩
    · rename_i r lo hi hn
      obtain ⟨bl', h1, _⟩ := h.freeze [r]
      exact ⟨bl', h1⟩
    · exact ⟨bl, h⟩
  | free t =>
    simp only [coerce1]
    obtain ⟨bl', h1, _⟩ := h.freeze (AV.refs (s.tm.getD t .junk))
    exact ⟨bl', h1⟩

theorem coerces_ok : ∀ (co : List Co) (s : St) (bl : List (Option Nat)), Sim I w bl s tmps → ∃ bl', Sim I w bl' (co.foldl coerce1 s) tmps
  | [], s, bl, h => ⟨bl, h⟩
  | c :: co, s, bl, h => by
    obtain ⟨bl1, h1⟩ := coerce1_ok h c
    exact coerces_ok co _ bl1 h1

theorem killTm_ok {E : Env} (keep : List Nat) : ∀ (as : List AV) (i : Nat) (vs : List Value), RepL E as vs → RepL E (killTm keep i as) vs
  | [], i, vs, h => by simpa [killTm] using h
  | a :: as, i, vs, h => by
    simp only [RepL] at h
    obtain ⟨v, vs', rfl, h1, h2⟩ := h
    refine ⟨v, vs', rfl, ?_, killTm_ok keep as (i + 1) vs' h2⟩
    split
    · exact h1
    · simp [Rep]

theorem pack_ok {vs : List AV} {us : List Value} {m : Nat} (h : HSim I w bl hp) (hr : RepL (I.env w bl hp) vs us) (hm : m = I.hin.length) :
    ∃ bl', HSim I w bl' (pack m vs hp).2 ∧ RepL (I.env w bl' (pack m vs hp).2) (pack m vs hp).1 us := by
  subst hm
  obtain ⟨h3, h4⟩ := h.keep (keepOk_reach hp hp.length I.hin.length (AV.refsL vs))
  have h5 := RepL.sub h4 _ _ hr
  obtain ⟨h6, h7⟩ := trimAll_ok _ [] _ _ _ h3 (by simpa using h5) (fun r => Nat.le_refl _)
  exact ⟨_, h6, h7⟩

theorem cut_ok (h : Sim I w bl s tmps) (co : List Co) (keep : List Nat) : ∃ bl', Sim I w bl' (s.cut co keep) tmps := by
  obtain ⟨bl1, h1⟩ := coerces_ok co s bl h
  have h2 := killTm_ok (E := I.env w bl1 (co.foldl coerce1 s).hp) keep _ 0 _ h1.tm
  obtain ⟨bl2, h3, h4⟩ := pack_ok h1.h h2 h1.m
  exact ⟨bl2, h3, h4, h1.m⟩

/-! ### results -/

theorem aLoad_val {t : TypeId} {a : AV} {av : Value} {v : AV} {s' : St} (h : Sim I w bl s tmps) (ha : Rep (I.env w bl s.hp) a av) (hl : aLoad P t a s = .val v s') :
    ∃ ad val, av = .pointer (some ad) ∧ (loadVar t ad).run P w = .ok val w ∧ Rep (I.env w bl s.hp) v val := by
  unfold aLoad at hl
  split at hl
  · rename_i r off
    split at hl
    · rename_i cs hr
      split at hl
      · rename_i hc
        simp only [Eff.val.injEq] at hl
        obtain ⟨rfl, _⟩ := hl
        obtain ⟨k, vs, e, hb, rfl, hk, hrep⟩ := ok_ptr h ha hr
        have hl := hrep.length
        have hl2 : ((vs.toList.drop off).take (sizeT P t)).length = sizeT P t := by simp at hl ⊢; omega
        refine ⟨_, valOf P t ((vs.toList.drop off).take (sizeT P t)), rfl, run_loadVar' hc.2 ?_ hl2, mkVal_rep hc.2 ((hrep.drop off).take _) hl2⟩
        have := (cellsAt_block hk).sub off (sizeT P t)
        simpa using this
      · cases hl
    · cases hl
  · rename_i cs
    split at hl
    · rename_i hc
      simp only [Eff.val.injEq] at hl
      obtain ⟨rfl, _⟩ := hl
      simp only [Rep] at ha
      obtain ⟨a, vs, rfl, h1, h2, h3, h4, h5⟩ := ha
      have hl := h5.length
      have hl2 : (vs.take (sizeT P t)).length = sizeT P t := by simp; omega
      refine ⟨a, valOf P t (vs.take (sizeT P t)), rfl, ?_, mkVal_rep hc.2 (h5.take _) hl2⟩
      rw [addr_eta h1]
      refine run_loadVar' hc.2 ?_ hl2
      have h6 : CellsAt w a.block (a.off + 0) ((vs.drop 0).take (sizeT P t)) := CellsAt.sub h3 0 (sizeT P t)
      simpa using h6
    · cases hl
  · split at hl
    · split at hl <;> cases hl
    · split at hl <;> cases hl
    · cases hl
  · cases hl

def resVar (tv : Array Value) : ResultVar → Sem Value
  | .tmp t => pure (tv.getD t undef)
  | .cell a t => do loadVar t (← asAddr (tv.getD a undef))

theorem results_eq (fn : Func) (tv : Array Value) : results fn tv = (do let vs ← fn.results.mapM (resVar tv); pure (if h : vs.size = 1 then vs[0] else .tuple vs)) := by
  unfold results
  congr 1

theorem results_ok {tv : Array Value} (h : Sim I w bl s tv.toList) : ∀ (rs : List ResultVar) (vs : List AV), allSome (rs.map (resultVar P s)) = some vs →
    ∃ us : List Value, (rs.mapM (m := Sem) (resVar tv)).run P w = .ok us w ∧ RepL (I.env w bl s.hp) vs us
  | [], vs, hv => by
    simp only [List.map_nil, allSome, Option.some.injEq] at hv
    subst hv
    exact ⟨[], by simp, by simp [RepL]⟩
  | r :: rs, vs, hv => by
    simp only [List.map_cons] at hv
    cases hr : resultVar P s r with
    | none => rw [hr] at hv; simp [allSome] at hv
    | some v =>
      rw [hr] at hv
      simp only [allSome] at hv
      cases hq : allSome (rs.map (resultVar P s)) with
      | none => rw [hq] at hv; simp at hv
      | some vs' =>
        rw [hq] at hv
        simp only [Option.some.injEq] at hv
        subst hv
        obtain ⟨us, h1, h2⟩ := results_ok h rs vs' hq
        cases r with
        | tmp t =>
          simp only [resultVar, Option.some.injEq] at hr
          subst hr
          refine ⟨tv.getD t undef :: us, ?_, ⟨_, us, rfl, h.tm.getD t, h2⟩⟩
          rw [List.mapM_cons]
          simp only [resVar, Sem.run_bind, Sem.run_pure, Result.andThen_ok, h1]
        | cell a t =>
          simp only [resultVar] at hr
          split at hr
          · rename_i v' s' hl
            simp only [Option.some.injEq] at hr
            subst hr
            obtain ⟨ad, val, h3, h4, h5⟩ := aLoad_val h (h.tm.getD a) hl
            refine ⟨val :: us, ?_, ⟨val, us, rfl, h5, h2⟩⟩
            rw [List.mapM_cons]
            simp only [resVar, Sem.run_bind, h3, asAddr, Sem.run_pure, Result.andThen_ok, h4, h1]
          · cases hr

theorem finish_ok {f : Nat} {fn : Func} {tv : Array Value} {res : AV} {hout : List AO} (h : Sim I w bl s tv.toList) (hf : P.funcs[f]? = some fn) (hfin : finish P f s = some (res, hout)) :
    ∃ v bl', (results fn tv).run P w = .ok v w ∧ HSim I w bl' hout ∧ Rep (I.env w bl' hout) res v := by
  unfold finish at hfin
  rw [hf] at hfin
  simp only at hfin
  cases hq : allSome (fn.results.toList.map (resultVar P s)) with
  | none => rw [hq] at hfin; simp at hfin
  | some vs =>
    rw [hq] at hfin
    simp only [Option.some.injEq] at hfin
    obtain ⟨us, h1, h2⟩ := results_ok (P := P) h fn.results.toList vs hq
    obtain ⟨bl1, h3, h4⟩ := h.frozen (addNew [] (vs.flatMap loose)) h2
    obtain ⟨bl2, h5, h6⟩ := ownNil_ok (P := P) fn.resultTypes.toList _ [] _ bl1 us h3.h (by simpa using unfullL_rep _ _ h4)
    simp only [List.nil_append] at h6
    obtain ⟨bl3, h7, h8⟩ := pack_ok h5 h6 h.m
    have hres : (results fn tv).run P w = .ok (if h : us.toArray.size = 1 then us.toArray[0] else .tuple us.toArray) w := by
      rw [results_eq, Array.mapM_eq_mapM_toList]
      simp only [Sem.run_bind, Sem.run_map, h1, Result.andThen_ok, Sem.run_pure]
    simp only [Prod.mk.injEq] at hfin
    obtain ⟨e1, e2⟩ := hfin
    rw [e2] at h7 h8
    refine ⟨_, bl3, hres, h7, ?_⟩
    rw [← e1]
    revert h8
    generalize (pack _ _ _).1 = zs
    intro h8
    have hlen := h8.length
    unfold tupOf
    split
    · rename_i v
      obtain ⟨u, rfl, hu⟩ := h8.one_inv
      simpa using hu
    · rename_i hne
      have : ¬ us.toArray.size = 1 := by
        intro hs
        have : us.length = 1 := by simpa using hs
        rw [this] at hlen
        match zs, hlen, hne with
        | [z], _, hne => exact hne z rfl
      rw [dif_neg this]
      simp only [Rep]
      exact ⟨_, rfl, by simpa using h8⟩

end
end Go.Cellar
