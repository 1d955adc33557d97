/- Groups of relations, by plain lists: what is written is read, and what is read is written so. No condition. -/
import Derived.Test.YtjjlkckemfdckaaDoorPl7g
set_option linter.unusedSimpArgs false
set_option linter.unusedVariables false
set_option maxRecDepth 4000
namespace Go.Cellar
open Go

/-! ### the program's reading -/

def fP (k : Nat) (s : List UInt8) : Unit ⊕ Rl := match parseR s with
  | some x => if k = 64 then .inl () else .inr x
  | none => .inl ()

/-- A text's things, with a text between. -/
def cut1V (sep s : List UInt8) : Int × List Rl :=
  if s = [] then (0, []) else match mapE fP 0 (splitT sep s.length s) with
    | .inr l => (0, l)
    | .inl _ => (2, [])

theorem cut1_eq (sep s : List UInt8) (h2 : 2 ≤ sep.length) (hsl : sep.length < 100) (hs : s.length < 100000000) : api_Rel__47 s sep = some (cut1V sep s) := by
  unfold api_Rel__47 cut1V
  by_cases h0 : s = []
  · simp [h0]
  · simp only [h0, decide_false, cond_false, if_false]
    rw [split_eq s sep h2 hsl (by omega), Option.bind_some]
    obtain ⟨L, hL⟩ : ∃ L, L = splitT sep s.length s := ⟨_, rfl⟩
    have hLl := (splitT_len sep s.length s).2
    have hLs : ∀ x ∈ L, x.length ≤ s.length := fun x hx => by rw [hL] at hx; exact splitT_small sep s.length s x hx
    rw [← hL] at hLl ⊢
    have h := col_loop (api_Rel__47_b0 (L.length : Int) L) fP L (fun k out hk => by
        unfold api_Rel__47_b0
        simp [show ¬ k < L.length by omega]) (fun k x r out h ho => by
        obtain ⟨g1, g2, g3⟩ := drop_cons h []
        have hx := hLs x (List.mem_of_mem_drop (by rw [h]; simp))
        have e1 : ((k : Int) + ((0 : Nat) : Int)) = (k : Int) := by omega
        unfold api_Rel__47_b0 fP
        simp only [natlt, g1, decide_true, cond_true, Int.natCast_nonneg, true_and, e1, if_true, Int.toNat_natCast, Nat.zero_add, g2, kplus g1 (by omega), relParse_eq x (by omega), Option.bind_some, e2']
        cases hp : parseR x with
        | none => simp
        | some y =>
          subst ho
          by_cases h64 : out.length = 64
          · simp [h64]
          · simp only [decide_true, Bool.not_true, cond_false, show ¬ ((out.length : Int) = 64) by omega, decide_false, Option.bind_some, Sum.elim_inr, h64, if_false, List.drop_zero, List.length_cons, List.length_nil]
            rw [if_pos (by omega)]) L 0 [] rfl rfl
    have h' : iter (api_Rel__47_b0 (L.length : Int) L) ((0 : Int), []) = _ := h
    rw [e2', h']
    cases mapE fP 0 L with
    | inl e => rfl
    | inr l => simp

def someV (s : List UInt8) : Int × List Rl := if s = [] then (2, []) else cut1V sepB s

theorem some_eq (s : List UInt8) (hs : s.length < 100000000) : relation_some s = some (someV s) := by
  unfold relation_some someV
  by_cases h0 : s = []
  · simp [h0]
  · have := cut1_eq sepB s (by decide) (by decide) hs
    unfold sepB at this
    simp only [h0, decide_false, cond_false, this, Option.bind_some, if_false]
    rfl

def fS (k : Nat) (s : List UInt8) : Unit ⊕ List Rl := if (someV s).1 = 0 then (if k = 64 then .inl () else .inr (someV s).2) else .inl ()

def pAllV (s : List UInt8) : Int × List (List Rl) :=
  if s = [] then (0, []) else match mapE fS 0 (splitT sepC s.length s) with
    | .inr l => (0, l)
    | .inl _ => (2, [])

theorem parseAll_eq (s : List UInt8) (hs : s.length < 100000000) : relation_ParseAll s = some (pAllV s) := by
  unfold relation_ParseAll api_Rel__41 pAllV
  by_cases h0 : s = []
  · simp [h0]
  · simp only [h0, decide_false, cond_false, if_false]
    have hsp := split_eq s sepC (by decide) (by decide) (by omega)
    unfold sepC at hsp
    rw [hsp, Option.bind_some]
    obtain ⟨L, hL⟩ : ∃ L, L = splitT sepC s.length s := ⟨_, rfl⟩
    have hLl := (splitT_len sepC s.length s).2
    have hLs : ∀ x ∈ L, x.length ≤ s.length := fun x hx => by rw [hL] at hx; exact splitT_small sepC s.length s x hx
    have hL' : splitT [44, 32] s.length s = L := hL.symm
    rw [← hL] at hLl ⊢
    rw [hL']
    have h := col_loop (api_Rel__41_b0 (L.length : Int) L) fS L (fun k out hk => by
        unfold api_Rel__41_b0
        simp [show ¬ k < L.length by omega]) (fun k x r out h ho => by
        obtain ⟨g1, g2, g3⟩ := drop_cons h []
        have hx := hLs x (List.mem_of_mem_drop (by rw [h]; simp))
        have e1 : ((k : Int) + ((0 : Nat) : Int)) = (k : Int) := by omega
        unfold api_Rel__41_b0 fS
        simp only [natlt, g1, decide_true, cond_true, Int.natCast_nonneg, true_and, e1, if_true, Int.toNat_natCast, Nat.zero_add, g2, kplus g1 (by omega), some_eq x (by omega), Option.bind_some, e2']
        by_cases hp : (someV x).1 = 0
        · subst ho
          by_cases h64 : out.length = 64
          · simp [h64, hp]
          · simp only [hp, decide_true, Bool.not_true, cond_false, show ¬ ((out.length : Int) = 64) by omega, decide_false, Option.bind_some, Sum.elim_inr, h64, if_false, if_true, List.drop_zero, List.length_cons, List.length_nil]
            rw [if_pos (by omega)]
        · simp [hp]) L 0 [] rfl rfl
    have h' : iter (api_Rel__41_b0 (L.length : Int) L) ((0 : Int), []) = _ := h
    rw [e2', h']
    cases mapE fS 0 L with
    | inl e => rfl
    | inr l => simp

theorem parseList_eq (s : List UInt8) (hs : s.length < 100000000) : relation_ParseList s = some (cut1V sepC s) := by
  unfold relation_ParseList
  have := cut1_eq sepC s (by decide) (by decide) hs
  unfold sepC at this
  rw [this]
  rfl

/-! ### read and written, in the program -/

theorem cut1_write {sep s : List UInt8} {l : List Rl} (hs : s ≠ []) (h : cut1V sep s = (0, l)) : l ≠ [] ∧ l.length ≤ 64 ∧ l.all rightR = true ∧ Lib.join (l.map textR) sep = s := by
  unfold cut1V at h
  rw [if_neg hs] at h
  have hj := splitT_join sep s.length s
  have hl := splitT_len sep s.length s
  cases hm : mapE fP 0 (splitT sep s.length s) with
  | inl e => rw [hm] at h; cases h
  | inr ys =>
    rw [hm] at h
    simp only [Prod.mk.injEq, true_and] at h
    subst h
    obtain ⟨h1, h2⟩ := mapE_inr hm
    have each : ∀ (i : Nat) (x : List UInt8) (y : Rl), (splitT sep s.length s)[i]? = some x → ys[i]? = some y → rightR y = true ∧ textR y = x ∧ i < 64 ∨ 64 < i := by
      intro i x y hx hy
      have := h2 i x y hx hy
      unfold fP at this
      cases hp : parseR x with
      | none => rw [hp] at this; cases this
      | some z =>
        rw [hp] at this
        dsimp only at this
        split at this
        · cases this
        · rename_i hk
          simp only [Sum.inr.injEq] at this
          subst this
          obtain ⟨q1, q2⟩ := parseR_iff.mp hp
          by_cases hi : i < 64
          · exact .inl ⟨q1, q2, hi⟩
          · exact .inr (by omega)
    have h64 : ys.length ≤ 64 := by
      rcases Nat.lt_or_ge 64 ys.length with h | h
      · exfalso
        obtain ⟨x, hx⟩ : ∃ x, (splitT sep s.length s)[64]? = some x := ⟨_, List.getElem?_eq_getElem (by omega)⟩
        obtain ⟨y, hy⟩ : ∃ y, ys[64]? = some y := ⟨_, List.getElem?_eq_getElem h⟩
        have := h2 64 x y hx hy
        unfold fP at this
        cases hp : parseR x with
        | none => rw [hp] at this; cases this
        | some z => rw [hp] at this; simp at this
      · exact h
    have hmap : ys.map textR = splitT sep s.length s := by
      apply List.ext_getElem?
      intro i
      rw [List.getElem?_map]
      by_cases hi : i < ys.length
      · have hy : ys[i]? = some ys[i] := List.getElem?_eq_getElem hi
        have hx : (splitT sep s.length s)[i]? = some (splitT sep s.length s)[i] := List.getElem?_eq_getElem (by omega)
        rw [hy, hx]
        rcases each i _ _ hx hy with q | q
        · simp [q.2.1]
        · omega
      · rw [List.getElem?_eq_none (by omega), List.getElem?_eq_none (by omega)]; rfl
    refine ⟨?_, h64, ?_, by rw [hmap]; exact hj⟩
    · rintro rfl
      simp at h1
      omega
    · rw [List.all_eq_true]
      intro y hy
      obtain ⟨i, hi⟩ := List.getElem?_of_mem hy
      have hil : i < ys.length := (List.getElem?_eq_some_iff.mp hi).1
      have hx : (splitT sep s.length s)[i]? = some (splitT sep s.length s)[i] := List.getElem?_eq_getElem (by omega)
      rcases each i _ _ hx hi with q | q
      · exact q.1
      · omega

theorem join_ne {L : List (List UInt8)} {sep : List UInt8} (h : L ≠ []) (hx : ∀ x ∈ L, x ≠ []) : Lib.join L sep ≠ [] := by
  cases L with
  | nil => exact absurd rfl h
  | cons x r =>
    rw [Lib.join_cons]
    intro e
    exact hx x (by simp) (List.append_eq_nil_iff.mp e).1

theorem join_count {sep : List UInt8} : ∀ {L : List (List UInt8)}, (∀ x ∈ L, x ≠ []) → L.length ≤ (Lib.join L sep).length
  | [], _ => by simp
  | [x], h => by
    rw [Lib.join_one]
    have := List.length_pos_iff.mpr (h x (by simp))
    simp; omega
  | x :: y :: r, h => by
    rw [join_cons2]
    have h1 := List.length_pos_iff.mpr (h x (by simp))
    have h2 := join_count (sep := sep) (L := y :: r) fun z hz => h z (by simp [hz])
    simp only [List.length_append, List.length_cons] at h2 ⊢
    omega

theorem cut1_read {a b : List UInt8} {c : UInt8} (ha : ∀ y ∈ a, y ≠ c) {l : List Rl} (h0 : l ≠ []) (h64 : l.length ≤ 64) (hr : l.all rightR = true) (hc : ∀ x ∈ l, ∀ y ∈ textR x, y ≠ c) : cut1V (a ++ c :: b) (Lib.join (l.map textR) (a ++ c :: b)) = (0, l) := by
  have hne : ∀ x ∈ l.map textR, x ≠ [] := by
    intro y hy
    obtain ⟨x, hx, rfl⟩ := List.mem_map.mp hy
    exact (textR_ok (List.all_eq_true.mp hr x hx)).2.2
  have hj : Lib.join (l.map textR) (a ++ c :: b) ≠ [] := join_ne (by simpa using h0) hne
  have hcnt := join_count (sep := a ++ c :: b) hne
  unfold cut1V
  rw [if_neg hj, splitT_of ha (l.map textR) _ (by simpa using h0) (fun x hx => by
    obtain ⟨z, hz, rfl⟩ := List.mem_map.mp hx
    exact hc z hz) (by omega)]
  have : mapE fP 0 (l.map textR) = .inr l := by
    have key : ∀ (l : List Rl) (k : Nat), k + l.length ≤ 64 → l.all rightR = true → mapE fP k (l.map textR) = .inr l := by
      intro l
      induction l with
      | nil => intro k _ _; rfl
      | cons x r ih =>
        intro k hk hr
        simp only [List.length_cons] at hk
        simp only [List.all_cons, Bool.and_eq_true] at hr
        have hp : parseR (textR x) = some x := parseR_iff.mpr ⟨hr.1, rfl⟩
        simp only [List.map_cons, mapE, fP, hp, show ¬ (k = 64) by omega, if_false, ih (k + 1) (by omega) hr.2]
    exact key l 0 (by omega) hr
  rw [this]

/-! ### groups, in the program -/

theorem joinG_ok {g : List Rl} (h : okG g = true) : (∀ c ∈ joinG g, c ≠ 44) ∧ joinG g ≠ [] := by
  unfold okG at h
  simp only [Bool.and_eq_true, Bool.not_eq_true', decide_eq_false_iff_not] at h
  have hg : g ≠ [] := fun e => h.1 (by rw [e]; rfl)
  refine ⟨?_, join_ne (by simpa using hg) (fun y hy => by
    obtain ⟨x, hx, rfl⟩ := List.mem_map.mp hy
    exact (textR_ok (List.all_eq_true.mp h.2 x hx)).2.2)⟩
  have key : ∀ L : List (List UInt8), (∀ x ∈ L, ∀ c ∈ x, c ≠ 44) → ∀ c ∈ Lib.join L sepB, c ≠ 44 := by
    intro L
    induction L with
    | nil => intro _ c hc; simp [Lib.join_nil] at hc
    | cons x r ih =>
      intro h c hc
      cases r with
      | nil => rw [Lib.join_one] at hc; exact h x (by simp) c hc
      | cons y r =>
        rw [join_cons2] at hc
        simp only [List.mem_append] at hc
        rcases hc with (hc | hc) | hc
        · exact h x (by simp) c hc
        · simp only [sepB, List.mem_cons, List.not_mem_nil, or_false] at hc
          rcases hc with rfl | rfl | rfl <;> decide
        · exact ih (fun z hz => h z (by simp [hz])) c hc
  exact key _ fun y hy => by
    obtain ⟨x, hx, rfl⟩ := List.mem_map.mp hy
    exact (textR_ok (List.all_eq_true.mp h.2 x hx)).1

theorem some_read {g : List Rl} (h : okG g = true) (h64 : g.length ≤ 64) : someV (joinG g) = (0, g) := by
  have h' := h
  unfold okG at h'
  simp only [Bool.and_eq_true, Bool.not_eq_true', decide_eq_false_iff_not] at h'
  have hg : g ≠ [] := fun e => h'.1 (by rw [e]; rfl)
  unfold someV
  rw [if_neg (joinG_ok h).2]
  exact cut1_read (a := [32]) (b := [32]) (c := 124) (by decide) hg h64 h'.2 fun x hx => (textR_ok (List.all_eq_true.mp h'.2 x hx)).2.1

theorem some_write {s : List UInt8} (h : (someV s).1 = 0) : okG (someV s).2 = true ∧ (someV s).2.length ≤ 64 ∧ joinG (someV s).2 = s := by
  unfold someV at h ⊢
  by_cases h0 : s = []
  · rw [if_pos h0] at h; cases h
  · rw [if_neg h0] at h ⊢
    obtain ⟨q1, q2, q3, q4⟩ := cut1_write h0 (show cut1V sepB s = (0, (cut1V sepB s).2) by rw [← h])
    refine ⟨?_, q2, q4⟩
    unfold okG
    rw [q3]
    simpa using q1

/-- What is written, is read. -/
theorem all_read {l : List (List Rl)} {s : List UInt8} (h : allV l = (s, 0)) : pAllV s = (0, l) ∧ (l = [] → s = []) ∧ l.all okG = true ∧ l.length ≤ 64 ∧ (∀ g ∈ l, g.length ≤ 64) ∧ Lib.join (l.map joinG) sepC = s := by
  unfold allV at h
  split at h
  · cases h
  · rename_i hb
    split at h
    · cases h
    · rename_i h64
      split at h
      · rename_i ha
        simp only [Prod.mk.injEq, and_true] at h
        have hb' : ∀ g ∈ l, g.length ≤ 64 := by simpa using hb
        refine ⟨?_, fun e => by rw [← h, e]; rfl, ha, by omega, hb', h⟩
        unfold pAllV
        by_cases h0 : l = []
        · subst h0
          rw [← h]
          rfl
        · have hne : ∀ x ∈ l.map joinG, x ≠ [] := by
            intro y hy
            obtain ⟨x, hx, rfl⟩ := List.mem_map.mp hy
            exact (joinG_ok (List.all_eq_true.mp ha x hx)).2
          have hs0 : s ≠ [] := by rw [← h]; exact join_ne (by simpa using h0) hne
          have hcnt := join_count (sep := sepC) hne
          rw [h] at hcnt
          have hsp := splitT_of (a := []) (b := [32]) (c := 44) (by simp) (l.map joinG) s.length (by simpa using h0) (fun x hx => by
            obtain ⟨z, hz, rfl⟩ := List.mem_map.mp hx
            exact (joinG_ok (List.all_eq_true.mp ha z hz)).1) (by omega)
          have hsp' : splitT sepC s.length s = l.map joinG := by
            rw [← h] at hsp ⊢; exact hsp
          rw [if_neg hs0, hsp']
          have key : ∀ (l : List (List Rl)) (k : Nat), k + l.length ≤ 64 → l.all okG = true → (∀ g ∈ l, g.length ≤ 64) → mapE fS k (l.map joinG) = .inr l := by
            intro l
            induction l with
            | nil => intro k _ _ _; rfl
            | cons x r ih =>
              intro k hk hr hg
              simp only [List.length_cons] at hk
              simp only [List.all_cons, Bool.and_eq_true] at hr
              have hp := some_read hr.1 (hg x (by simp))
              simp only [List.map_cons, mapE, fS, hp, if_true, show ¬ (k = 64) by omega, if_false, ih (k + 1) (by omega) hr.2 (fun g h => hg g (by simp [h]))]
          rw [key l 0 (by omega) ha hb']
      · cases h

/-- What is read, is written so. -/
theorem all_write {s : List UInt8} {l : List (List Rl)} (h : pAllV s = (0, l)) : allV l = (s, 0) := by
  unfold pAllV at h
  by_cases h0 : s = []
  · rw [if_pos h0] at h
    simp only [Prod.mk.injEq, true_and] at h
    subst h h0
    rfl
  · rw [if_neg h0] at h
    have hj := splitT_join sepC s.length s
    have hl := splitT_len sepC s.length s
    cases hm : mapE fS 0 (splitT sepC s.length s) with
    | inl e => rw [hm] at h; cases h
    | inr ys =>
      rw [hm] at h
      simp only [Prod.mk.injEq, true_and] at h
      subst h
      obtain ⟨h1, h2⟩ := mapE_inr hm
      have each : ∀ (i : Nat) (x : List UInt8) (y : List Rl), (splitT sepC s.length s)[i]? = some x → ys[i]? = some y → okG y = true ∧ y.length ≤ 64 ∧ joinG y = x ∧ i ≠ 64 := by
        intro i x y hx hy
        have := h2 i x y hx hy
        unfold fS at this
        split at this
        · rename_i hz
          split at this
          · cases this
          · rename_i hk
            simp only [Sum.inr.injEq] at this
            subst this
            obtain ⟨q1, q2, q3⟩ := some_write hz
            exact ⟨q1, q2, q3, by omega⟩
        · cases this
      have h64 : ys.length ≤ 64 := by
        rcases Nat.lt_or_ge 64 ys.length with h | h
        · exfalso
          exact (each 64 _ _ (List.getElem?_eq_getElem (by omega)) (List.getElem?_eq_getElem h)).2.2.2 rfl
        · exact h
      have hget : ∀ y ∈ ys, okG y = true ∧ y.length ≤ 64 := by
        intro y hy
        obtain ⟨i, hi⟩ := List.getElem?_of_mem hy
        have hil : i < ys.length := (List.getElem?_eq_some_iff.mp hi).1
        have q := each i _ _ (List.getElem?_eq_getElem (by omega)) hi
        exact ⟨q.1, q.2.1⟩
      have hmap : ys.map joinG = splitT sepC s.length s := by
        apply List.ext_getElem?
        intro i
        rw [List.getElem?_map]
        by_cases hi : i < ys.length
        · have hy : ys[i]? = some ys[i] := List.getElem?_eq_getElem hi
          have hx : (splitT sepC s.length s)[i]? = some (splitT sepC s.length s)[i] := List.getElem?_eq_getElem (by omega)
          rw [hy, hx]
          simp [(each i _ _ hx hy).2.2.1]
        · rw [List.getElem?_eq_none (by omega), List.getElem?_eq_none (by omega)]; rfl
      unfold allV
      rw [if_neg, if_neg (by omega), if_pos, hmap, hj]
      · rw [List.all_eq_true]; exact fun y hy => (hget y hy).1
      · simp only [Bool.not_eq_true]
        rw [List.any_eq_false]
        intro y hy
        have := (hget y hy).2
        simp; omega

theorem pAllV_code (s : List UInt8) : (pAllV s).1 = 0 ∨ pAllV s = (2, []) := by
  unfold pAllV
  split
  · left; rfl
  · split
    · left; rfl
    · right; rfl

theorem cut1V_code (sep s : List UInt8) : (cut1V sep s).1 = 0 ∨ cut1V sep s = (2, []) := by
  unfold cut1V
  split
  · left; rfl
  · split
    · left; rfl
    · right; rfl

end Go.Cellar
