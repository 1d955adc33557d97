/- Lists that lose paths, and who owns one. No condition. -/
import Derived.Test.YtaopgboniaeeaaaDoorPl13p
import Derived.Test.YtaopgboniaeeaaaDoorFun13o
set_option linter.unusedSimpArgs false
set_option linter.unusedVariables false
set_option maxRecDepth 8000
namespace Go.Cellar
open Go

/-! ### is it there -/

theorem containsP_loop (o : List (List UInt8)) (v : List UInt8) (ho : o.length ≤ 10000) : ∀ (r : List (List UInt8)) (k : Nat), o.drop k = r →
    (v ∈ r ∧ ∃ m : Nat, iter (slices_Index___string_string__b0 o v ((o.length : Nat) : Int)) (k : Int) = some (.inl (m : Int))) ∨
    (v ∉ r ∧ iter (slices_Index___string_string__b0 o v ((o.length : Nat) : Int)) (k : Int) = some (.inr ())) := by
  intro r
  induction r with
  | nil =>
    intro k h
    have := drop_nil h
    right
    refine ⟨by simp, iter_inr ?_⟩
    unfold slices_Index___string_string__b0
    simp [show ¬ k < o.length by omega]
  | cons y r ih =>
    intro k h
    obtain ⟨g1, g2, g3⟩ := drop_cons h []
    by_cases hy : v = y
    · left
      refine ⟨by simp [hy], k, iter_inr ?_⟩
      unfold slices_Index___string_string__b0
      simp only [natlt, g1, decide_true, cond_true, Int.natCast_nonneg, true_and, if_true, Int.toNat_natCast, g2, hy]
    · have hb : slices_Index___string_string__b0 o v ((o.length : Nat) : Int) (k : Int) = some (.inl ((k + 1 : Nat) : Int)) := by
        unfold slices_Index___string_string__b0
        simp only [natlt, g1, decide_true, cond_true, Int.natCast_nonneg, true_and, if_true, Int.toNat_natCast, g2, hy, decide_false, cond_false, kplus g1 (by omega)]
      rw [iter_inl hb]
      rcases ih (k + 1) g3 with ⟨h1, h2⟩ | ⟨h1, h2⟩
      · exact .inl ⟨by simp [h1], h2⟩
      · exact .inr ⟨by simp [h1, hy], h2⟩

theorem containsP_eq (o : List (List UInt8)) (v : List UInt8) (ho : o.length ≤ 10000) : slices_Contains___string_string_ o v = some (decide (v ∈ o)) := by
  unfold slices_Contains___string_string_ slices_Index___string_string_
  rcases containsP_loop o v ho o 0 rfl with ⟨h1, m, h2⟩ | ⟨h1, h2⟩
  · have h2' : iter (slices_Index___string_string__b0 o v ((o.length : Nat) : Int)) (0 : Int) = some (.inl (m : Int)) := h2
    rw [h2']
    simp [h1]
  · have h2' : iter (slices_Index___string_string__b0 o v ((o.length : Nat) : Int)) (0 : Int) = some (.inr ()) := h2
    rw [h2']
    simp [h1]

theorem hasP_loop (o : List (List UInt8)) (v : List UInt8) (ho : o.length ≤ 10000) : ∀ (r : List (List UInt8)) (k : Nat), o.drop k = r →
    iter (cellarerref02_Has_b0 o v) (k : Int) = some (if v ∈ r then .inl () else .inr ()) := by
  intro r
  induction r with
  | nil =>
    intro k h
    have := drop_nil h
    refine iter_inr ?_
    unfold cellarerref02_Has_b0
    simp [show ¬ k < o.length by omega]
  | cons y r ih =>
    intro k h
    obtain ⟨g1, g2, g3⟩ := drop_cons h []
    by_cases hy : y = v
    · refine iter_inr ?_
      unfold cellarerref02_Has_b0
      simp only [natlt, g1, decide_true, cond_true, Int.natCast_nonneg, true_and, if_true, Int.toNat_natCast, g2, hy]
      simp
    · have hb : cellarerref02_Has_b0 o v (k : Int) = some (.inl ((k + 1 : Nat) : Int)) := by
        unfold cellarerref02_Has_b0
        simp only [natlt, g1, decide_true, cond_true, Int.natCast_nonneg, true_and, if_true, Int.toNat_natCast, g2, hy, decide_false, cond_false, kplus g1 (by omega)]
      rw [iter_inl hb, ih (k + 1) g3]
      have : ¬ v = y := fun e => hy e.symm
      simp [this]

theorem hasP_eq (o : List (List UInt8)) (v : List UInt8) (ho : o.length ≤ 10000) : cellarerref02_Has o v = some (decide (v ∈ o)) := by
  unfold cellarerref02_Has
  have h : iter (cellarerref02_Has_b0 o v) (0 : Int) = _ := hasP_loop o v ho o 0 rfl
  rw [h]
  by_cases hv : v ∈ o <;> simp [hv]

/-! ### paths struck out -/

def keepP (o : List (List UInt8)) (p : List UInt8) : Bool := !decide (p ∈ o)

theorem delP_index (o l : List (List UInt8)) (ho : o.length ≤ 10000) (hl : l.length ≤ 10000) : ∀ (r : List (List UInt8)) (k : Nat), l.drop k = r → (∀ x ∈ l.take k, keepP o x = true) →
    (iter (slices_IndexFunc___string_string__F_b0 l o ((l.length : Nat) : Int)) (k : Int) = some (.inr ()) ∧ ∀ x ∈ l, keepP o x = true) ∨
    ∃ (m : Nat), m < l.length ∧ iter (slices_IndexFunc___string_string__F_b0 l o ((l.length : Nat) : Int)) (k : Int) = some (.inl (m : Int)) ∧ (∀ x ∈ l.take m, keepP o x = true) ∧ keepP o (l.getD m []) = false := by
  intro r
  induction r with
  | nil =>
    intro k h ht
    have hk := drop_nil h
    left
    refine ⟨iter_inr ?_, fun x hx => ht x ?_⟩
    · unfold slices_IndexFunc___string_string__F_b0
      simp [show ¬ k < l.length by omega]
    · rw [List.take_of_length_le hk]; exact hx
  | cons y r ih =>
    intro k h ht
    obtain ⟨g1, g2, g3⟩ := drop_cons h []
    by_cases hy : y ∈ o
    · right
      refine ⟨k, g1, iter_inr ?_, ht, ?_⟩
      · unfold slices_IndexFunc___string_string__F_b0 lists_Lose_1_F
        simp only [natlt, g1, decide_true, cond_true, Int.natCast_nonneg, true_and, if_true, Int.toNat_natCast, g2, containsP_eq o y ho, hy, Option.bind_some]
      · unfold keepP
        rw [g2, decide_eq_true hy]; rfl
    · have hb : slices_IndexFunc___string_string__F_b0 l o ((l.length : Nat) : Int) (k : Int) = some (.inl ((k + 1 : Nat) : Int)) := by
        unfold slices_IndexFunc___string_string__F_b0 lists_Lose_1_F
        simp only [natlt, g1, decide_true, cond_true, Int.natCast_nonneg, true_and, if_true, Int.toNat_natCast, g2, containsP_eq o y ho, hy, decide_false, Option.bind_some, cond_false, kplus g1 (by omega)]
      rw [iter_inl hb]
      refine ih (k + 1) g3 fun x hx => ?_
      rw [List.take_add_one, List.mem_append] at hx
      rcases hx with hx | hx
      · exact ht x hx
      · have : l[k]? = some y := by
          rw [List.getElem?_eq_getElem g1]
          rw [List.getD_eq_getElem?_getD, List.getElem?_eq_getElem g1] at g2
          exact congrArg some g2
        rw [this] at hx
        simp only [Option.toList_some, List.mem_singleton] at hx
        subst hx
        unfold keepP
        rw [decide_eq_false hy]; rfl

theorem delP_loop (o l : List (List UInt8)) (ho : o.length ≤ 10000) (hl : l.length ≤ 10000) : ∀ (r : List (List UInt8)) (j i : Nat) (c : List (List UInt8)), l.drop j = r → i ≤ j → j ≤ l.length → c.length = l.length → c.drop j = l.drop j → c.take i = (l.take j).filter (keepP o) →
    ∃ (i' : Nat) (c' : List (List UInt8)), iter (slices_DeleteFunc___string_string__F_b0 o) ((i : Int), (j : Int), c) = some ((i' : Int), c') ∧ i' ≤ c'.length ∧ c'.take i' = l.filter (keepP o) := by
  intro r
  induction r with
  | nil =>
    intro j i c h hij hj hc hd ht
    have hk := drop_nil h
    refine ⟨i, c, iter_inr ?_, by omega, ?_⟩
    · unfold slices_DeleteFunc___string_string__F_b0
      simp only [Prod.snd, Prod.fst]
      rw [decide_eq_false (by omega)]
      rfl
    · rw [ht, List.take_of_length_le hk]
  | cons y r ih =>
    intro j i c h hij hj hc hd ht
    obtain ⟨g1, g2, g3⟩ := drop_cons h []
    obtain ⟨k1, k2, k3⟩ := drop_cons (hd.trans h) []
    have hlj : l[j]? = some y := by
      rw [List.getElem?_eq_getElem g1]
      rw [List.getD_eq_getElem?_getD, List.getElem?_eq_getElem g1] at g2
      exact congrArg some g2
    by_cases hy : y ∈ o
    · have hb : slices_DeleteFunc___string_string__F_b0 o ((i : Int), (j : Int), c) = some (.inl ((i : Int), ((j + 1 : Nat) : Int), c)) := by
        unfold slices_DeleteFunc___string_string__F_b0 lists_Lose_1_F
        simp only [Prod.snd, Prod.fst]
        rw [decide_eq_true (by omega), if_pos (by omega), if_pos (by rw [Int.toNat_natCast]; omega), kplus k1 (by omega)]
        simp only [cond_true, Option.bind_some, Int.toNat_natCast, Nat.zero_add, k2, containsP_eq o y ho, hy, decide_true, Bool.not_true, cond_false]
      rw [iter_inl hb]
      refine ih (j + 1) i c g3 (by omega) (by omega) hc ?_ ?_
      · rw [← List.drop_drop, hd, List.drop_drop]
      · rw [ht, List.take_add_one, hlj]
        simp [keepP, hy]
    · have hb : slices_DeleteFunc___string_string__F_b0 o ((i : Int), (j : Int), c) = some (.inl (((i + 1 : Nat) : Int), ((j + 1 : Nat) : Int), c.set i y)) := by
        unfold slices_DeleteFunc___string_string__F_b0 lists_Lose_1_F
        simp only [Prod.snd, Prod.fst]
        rw [decide_eq_true (by omega), if_pos (by omega), if_pos (by rw [Int.toNat_natCast]; omega), kplus k1 (by omega), kplus (show i < c.length by omega) (by omega)]
        simp only [cond_true, Option.bind_some, Int.toNat_natCast, Nat.zero_add, k2, containsP_eq o y ho, hy, decide_false, Bool.not_false, cond_true]
        rw [if_pos (by omega), if_pos (by omega)]
      rw [iter_inl hb]
      refine ih (j + 1) (i + 1) (c.set i y) g3 (by omega) (by omega) (by simpa using hc) ?_ ?_
      · rw [List.drop_set_of_lt (by omega), ← List.drop_drop, hd, List.drop_drop]
      · rw [List.take_add_one, List.take_set_of_le (Nat.le_refl i), ht, List.take_add_one, hlj, List.filter_append]
        simp only [List.getElem?_set_self (show i < c.length by omega), Option.toList_some]
        simp [keepP, hy]

theorem delP_eq (o l : List (List UInt8)) (ho : o.length ≤ 10000) (hl : l.length ≤ 10000) : slices_DeleteFunc___string_string__F o l = some (minusV l o) := by
  unfold slices_DeleteFunc___string_string__F slices_IndexFunc___string_string__F
  simp only [Option.bind_some, List.drop_zero]
  rcases delP_index o l ho hl l 0 rfl (by simp) with ⟨h1, h2⟩ | ⟨m, hm, h1, h2, h3⟩
  · have h1' : iter (slices_IndexFunc___string_string__F_b0 l o ((l.length : Nat) : Int)) (0 : Int) = some (.inr ()) := h1
    rw [h1']
    simp only [Option.bind_some, Sum.elim_inr, decide_true, cond_true]
    congr 1
    unfold minusV
    exact (List.filter_eq_self.mpr h2).symm
  · have h1' : iter (slices_IndexFunc___string_string__F_b0 l o ((l.length : Nat) : Int)) (0 : Int) = some (.inl (m : Int)) := h1
    rw [h1']
    simp only [Option.bind_some, Sum.elim_inl]
    rw [decide_eq_false (show ¬ (m : Int) = -1 by omega), kplus hm (by omega)]
    simp only [cond_false]
    have hlm : l[m]? = some (l.getD m []) := by
      rw [List.getElem?_eq_getElem hm, List.getD_eq_getElem?_getD, List.getElem?_eq_getElem hm]; rfl
    obtain ⟨i', c', e1, e2, e3⟩ := delP_loop o l ho hl _ (m + 1) m l rfl (by omega) (by omega) rfl rfl (by
      rw [List.take_add_one, hlm, List.filter_append, List.filter_eq_self.mpr h2, Option.toList_some, List.filter_cons_of_neg (by rw [h3]; simp), List.filter_nil, List.append_nil])
    rw [e1]
    simp only [Option.bind_some]
    rw [if_pos (by omega), if_pos (by simp; omega)]
    simp only [Option.bind_some, Int.toNat_natCast, Nat.zero_add]
    congr 1
    rw [List.take_append_of_le_length (by simp; omega), List.take_take, Nat.min_self, e3]
    rfl

theorem refMinus_loop (l o : List (List UInt8)) (ho : o.length ≤ 10000) (hl : l.length ≤ 10000) : ∀ (r : List (List UInt8)) (k : Nat) (out : List (List UInt8)), l.drop k = r → out.length ≤ k →
    iter (cellarerref13_Minus_b0 l o) ((k : Int), out) = some (out ++ minusV r o) := by
  intro r
  induction r with
  | nil =>
    intro k out h hout
    have := drop_nil h
    rw [iter_inr (t := out)]
    · simp [minusV]
    · unfold cellarerref13_Minus_b0
      simp [show ¬ k < l.length by omega]
  | cons y r ih =>
    intro k out h hout
    obtain ⟨g1, g2, g3⟩ := drop_cons h []
    by_cases hy : y ∈ o
    · have hb : cellarerref13_Minus_b0 l o ((k : Int), out) = some (.inl (((k + 1 : Nat) : Int), out)) := by
        unfold cellarerref13_Minus_b0
        simp only [natlt, g1, decide_true, cond_true, Int.natCast_nonneg, true_and, if_true, Int.toNat_natCast, g2, hasP_eq o y ho, hy, Option.bind_some, kplus g1 (by omega), Bool.not_true, cond_false]
      rw [iter_inl hb, ih (k + 1) out g3 (by omega)]
      simp [minusV, hy]
    · have hb : cellarerref13_Minus_b0 l o ((k : Int), out) = some (.inl (((k + 1 : Nat) : Int), out ++ [y])) := by
        unfold cellarerref13_Minus_b0
        simp only [natlt, g1, decide_true, cond_true, Int.natCast_nonneg, true_and, if_true, Int.toNat_natCast, g2, hasP_eq o y ho, hy, Option.bind_some, kplus g1 (by omega), decide_false, Bool.not_false]
        rw [if_pos (by simp; omega)]
      rw [iter_inl hb, ih (k + 1) (out ++ [y]) g3 (by simp; omega)]
      simp [minusV, hy]

theorem refMinus_eq (l o : List (List UInt8)) (ho : o.length ≤ 10000) (hl : l.length ≤ 10000) : cellarerref13_Minus l o = some (minusV l o) := by
  unfold cellarerref13_Minus
  have h : iter (cellarerref13_Minus_b0 l o) ((0 : Int), []) = _ := refMinus_loop l o ho hl l 0 [] rfl (by simp)
  rw [h]
  simp

/-! ### a list loses paths -/

theorem cloneP_eq (l : List (List UInt8)) (hl : l.length ≤ 10000) : slices_Clone___string_string_ l = some l := by
  unfold slices_Clone___string_string_
  rw [if_pos (by omega)]
  cases l with
  | nil => unfold mayb both; simp
  | cons x l => rfl

theorem cloneF_eq (l : List Ls) (hl : l.length ≤ 10000) : api_List__F l = some l := by
  rw [← cloneD_eq l hl]; rfl

theorem loseV_eq (l : List Ls) (n : List UInt8) (ps : List (List UInt8)) (hl : l.length ≤ 10000) (hx : ∀ x ∈ l, x.2.length ≤ 10000) (hp : ps.length ≤ 10000) : lists_Lose_F l n ps = some (loseV l n ps) := by
  unfold lists_Lose_F
  rw [findG l n hl, cloneF_eq l hl]
  simp only [Option.bind_some]
  unfold loseV
  cases hf : firstG (keyL n) l 0 with
  | none => rfl
  | some i =>
    have hi := firstG_lt _ l i hf
    have hm : (l.getD i ([], [])) ∈ l := by
      rw [List.getD_eq_getElem?_getD, List.getElem?_eq_getElem hi]; simp
    rw [show idxG (some i) = (i : Int) from rfl, decide_eq_false (by omega), if_pos (by omega)]
    simp only [cond_false, Int.toNat_natCast]
    rw [cloneP_eq _ (hx _ hm)]
    simp only [Option.bind_some]
    rw [delP_eq ps _ hp (hx _ hm)]
    simp only [Option.bind_some]
    rw [if_pos (by omega), if_pos (by omega)]
    simp only [Nat.zero_add, List.drop_zero]

def setAt (a : Int) (n : List UInt8) (ps : List (List UInt8)) : List Ls → Nat → List Ls
  | [], _ => []
  | y :: r, k => (if (k : Int) = a then (n, minusV y.2 ps) else y) :: setAt a n ps r (k + 1)

theorem setAt_no (n : List UInt8) (ps : List (List UInt8)) : ∀ (l : List Ls) (k : Nat), setAt (-1) n ps l k = l
  | [], _ => rfl
  | y :: r, k => by
    unfold setAt
    rw [if_neg (by omega), setAt_no n ps r (k + 1)]

theorem setAt_past (n : List UInt8) (ps : List (List UInt8)) (a : Nat) : ∀ (l : List Ls) (k : Nat), a < k → setAt (a : Int) n ps l k = l
  | [], _, _ => rfl
  | y :: r, k, h => by
    unfold setAt
    rw [if_neg (by omega), setAt_past n ps a r (k + 1) (by omega)]

theorem setAt_set (n : List UInt8) (ps : List (List UInt8)) : ∀ (l : List Ls) (k i : Nat), i < l.length → setAt ((k + i : Nat) : Int) n ps l k = l.set i (n, minusV (l.getD i ([], [])).2 ps)
  | [], _, _, h => by simp at h
  | y :: r, k, 0, h => by
    unfold setAt
    rw [if_pos (by omega), setAt_past n ps (k + 0) r (k + 1) (by omega)]
    rfl
  | y :: r, k, i + 1, h => by
    unfold setAt
    have := setAt_set n ps r (k + 1) i (by simpa using h)
    rw [if_neg (by omega), show k + (i + 1) = k + 1 + i by omega, this]
    rfl

theorem refLose_loop (l : List Ls) (n : List UInt8) (ps : List (List UInt8)) (a : Int) (hl : l.length ≤ 10000) (hx : ∀ x ∈ l, x.2.length ≤ 10000) (hp : ps.length ≤ 10000) : ∀ (r : List Ls) (k : Nat) (out : List Ls), l.drop k = r → out.length ≤ k →
    iter (cellarerref13_Lose_b0 l n ps a) ((k : Int), out) = some (out ++ setAt a n ps r k) := by
  intro r
  induction r with
  | nil =>
    intro k out h hout
    have := drop_nil h
    rw [iter_inr (t := out)]
    · simp [setAt]
    · unfold cellarerref13_Lose_b0
      simp [show ¬ k < l.length by omega]
  | cons y r ih =>
    intro k out h hout
    obtain ⟨g1, g2, g3⟩ := drop_cons h ([], [])
    have hy : y ∈ l := by
      rw [← g2, List.getD_eq_getElem?_getD, List.getElem?_eq_getElem g1]; simp
    have hb : cellarerref13_Lose_b0 l n ps a ((k : Int), out) = some (.inl (((k + 1 : Nat) : Int), out ++ [if (k : Int) = a then (n, minusV y.2 ps) else y])) := by
      unfold cellarerref13_Lose_b0
      simp only [natlt, g1, decide_true, cond_true, Int.natCast_nonneg, true_and, if_true, Int.toNat_natCast, g2, refMinus_eq y.2 ps hp (hx y hy), Option.bind_some, kplus g1 (by omega), List.drop_zero]
      by_cases hk : (k : Int) = a
      · rw [decide_eq_true hk, if_pos hk]
        simp only [cond_true, Option.bind_some, Sum.elim_inl]
        rw [if_pos (by simp; omega)]
      · rw [decide_eq_false hk, if_neg hk]
        simp only [cond_false, Option.bind_some, Sum.elim_inr]
        rw [if_pos (by simp; omega)]
    rw [iter_inl hb, ih (k + 1) _ g3 (by simp; omega)]
    simp [setAt]

theorem refLose_eq (l : List Ls) (n : List UInt8) (ps : List (List UInt8)) (hl : l.length ≤ 10000) (hx : ∀ x ∈ l, x.2.length ≤ 10000) (hp : ps.length ≤ 10000) : cellarerref13_Lose l n ps = some (loseV l n ps) := by
  unfold cellarerref13_Lose
  rw [refFindG l n hl]
  simp only [Option.bind_some]
  have h : iter (cellarerref13_Lose_b0 l n ps (idxG (firstG (keyL n) l 0))) ((0 : Int), []) = _ := refLose_loop l n ps _ hl hx hp l 0 [] rfl (by simp)
  rw [h]
  simp only [Option.bind_some, List.nil_append]
  congr 1
  unfold loseV
  cases hf : firstG (keyL n) l 0 with
  | none => exact setAt_no n ps l 0
  | some i =>
    have hi := firstG_lt _ l i hf
    obtain ⟨z, h1, h2, _⟩ := firstG_at _ l i hf
    have hz : l.getD i ([], []) = z := by rw [List.getD_eq_getElem?_getD, h1]; rfl
    have hzn : z.1 = n := by unfold keyL at h2; simpa using h2
    have := setAt_set n ps l 0 i hi
    rw [Nat.zero_add] at this
    show setAt ((i : Nat) : Int) n ps l 0 = _
    rw [this]
    simp only [hz, hzn]

theorem loseV_small (l : List Ls) (n : List UInt8) (ps : List (List UInt8)) (b : Nat) (h : ∀ x ∈ l, x.2.length ≤ b) : ∀ y ∈ loseV l n ps, y.2.length ≤ b := by
  intro y hy
  unfold loseV at hy
  split at hy
  · exact h y hy
  · rename_i i hf
    have hi := firstG_lt _ l i hf
    rcases List.mem_or_eq_of_mem_set hy with hy | rfl
    · exact h y hy
    · have hm : (l.getD i ([], [])) ∈ l := by
        rw [List.getD_eq_getElem?_getD, List.getElem?_eq_getElem hi]; simp
      have := h _ hm
      have h2 : (minusV (l.getD i ([], [])).2 ps).length ≤ (l.getD i ([], [])).2.length := List.length_filter_le _ _
      show (minusV (l.getD i ([], [])).2 ps).length ≤ b
      omega

theorem firstG_names (n : List UInt8) : ∀ (l l' : List Ls) (k : Nat), l.map (·.1) = l'.map (·.1) → firstG (keyL n) l k = firstG (keyL n) l' k
  | [], [], _, _ => rfl
  | [], _ :: _, _, h => by simp at h
  | _ :: _, [], _, h => by simp at h
  | x :: r, y :: r', k, h => by
    simp only [List.map_cons, List.cons.injEq] at h
    unfold firstG
    rw [firstG_names n r r' (k + 1) h.2]
    unfold keyL
    rw [h.1]

theorem lose_there (l : List Ls) (n : List UInt8) (ps : List (List UInt8)) (i : Nat) (h : firstG (keyL n) (loseV l n ps) 0 = some i) : minusV ((loseV l n ps).getD i ([], [])).2 ps = ((loseV l n ps).getD i ([], [])).2 := by
  rw [firstG_names n (loseV l n ps) l 0 (lose_names l n ps)] at h
  have hi := firstG_lt _ l i h
  unfold loseV
  rw [h]
  simp only
  rw [List.getD_eq_getElem?_getD, List.getElem?_set_self hi]
  simp only [Option.getD_some]
  unfold minusV
  rw [List.filter_filter]
  simp

/-! ### who owns a path -/

def ownersV (l : List Ls) (p : List UInt8) : List (List UInt8) := (l.filter fun x => decide (p ∈ x.2)).map (·.1)

theorem ownersV_eq (l : List Ls) (p : List UInt8) (hl : l.length ≤ 10000) (hx : ∀ x ∈ l, x.2.length ≤ 10000) : lists_Owners l p = some (ownersV l p) := by
  unfold lists_Owners
  rw [if_pos ⟨by omega, by
    rw [List.all_eq_true]
    intro x h
    have := hx x h
    exact decide_eq_true (by omega)⟩]
  rfl

theorem refOwners_loop (l : List Ls) (p : List UInt8) (hl : l.length ≤ 10000) (hx : ∀ x ∈ l, x.2.length ≤ 10000) : ∀ (r : List Ls) (k : Nat) (out : List (List UInt8)), l.drop k = r → out.length ≤ k →
    iter (cellarerref13_Owners_b0 l p) ((k : Int), out) = some (out ++ ownersV r p) := by
  intro r
  induction r with
  | nil =>
    intro k out h hout
    have := drop_nil h
    rw [iter_inr (t := out)]
    · simp [ownersV]
    · unfold cellarerref13_Owners_b0
      simp [show ¬ k < l.length by omega]
  | cons y r ih =>
    intro k out h hout
    obtain ⟨g1, g2, g3⟩ := drop_cons h ([], [])
    have hy : y ∈ l := by
      rw [← g2, List.getD_eq_getElem?_getD, List.getElem?_eq_getElem g1]; simp
    by_cases hm : p ∈ y.2
    · have hb : cellarerref13_Owners_b0 l p ((k : Int), out) = some (.inl (((k + 1 : Nat) : Int), out ++ [y.1])) := by
        unfold cellarerref13_Owners_b0
        simp only [natlt, g1, decide_true, cond_true, Int.natCast_nonneg, true_and, if_true, Int.toNat_natCast, g2, hasP_eq y.2 p (hx y hy), hm, Option.bind_some, kplus g1 (by omega)]
        rw [if_pos (by simp; omega)]
      rw [iter_inl hb, ih (k + 1) _ g3 (by simp; omega)]
      simp [ownersV, hm]
    · have hb : cellarerref13_Owners_b0 l p ((k : Int), out) = some (.inl (((k + 1 : Nat) : Int), out)) := by
        unfold cellarerref13_Owners_b0
        simp only [natlt, g1, decide_true, cond_true, Int.natCast_nonneg, true_and, if_true, Int.toNat_natCast, g2, hasP_eq y.2 p (hx y hy), hm, decide_false, cond_false, Option.bind_some, kplus g1 (by omega)]
      rw [iter_inl hb, ih (k + 1) _ g3 (by omega)]
      simp [ownersV, hm]

theorem refOwnersV_eq (l : List Ls) (p : List UInt8) (hl : l.length ≤ 10000) (hx : ∀ x ∈ l, x.2.length ≤ 10000) : cellarerref13_Owners l p = some (ownersV l p) := by
  unfold cellarerref13_Owners
  have h : iter (cellarerref13_Owners_b0 l p) ((0 : Int), []) = _ := refOwners_loop l p hl hx l 0 [] rfl (by simp)
  rw [h]
  simp

/-! ### the law -/

theorem ListsOwners_true (l : List Ls) (p : List UInt8) (a : List UInt8) (b : List (List UInt8)) : cellarerlaw13_ListsOwners_F l p a b = some true := by
  unfold cellarerlaw13_ListsOwners_F
  obtain ⟨b1, e1, f1⟩ := few13 l
  obtain ⟨b2, e2, f2⟩ := few13 [(a, b)]
  rw [e1, awake13, e2]
  cases b1 with
  | false => rfl
  | true =>
    cases b2 with
    | false => rfl
    | true =>
      by_cases hp : (300 : Int) < (p.length : Int)
      · simp only [Option.bind_some, Bool.not_true, cond_false]
        rw [decide_eq_true hp]; rfl
      · simp only [Option.bind_some, Bool.not_true, cond_false]
        rw [decide_eq_false hp]
        simp only [cond_false, Option.bind_some, Sum.elim_inr]
        obtain ⟨hl, hf⟩ := f1 rfl
        have hx := (f2 rfl).2 (a, b) (by simp)
        have hb : b.length ≤ 10000 := by have := hx.2.1; simp only at this; omega
        have hl' : l.length ≤ 10000 := by omega
        have hls : ∀ x ∈ l, x.2.length ≤ 10000 := fun x hx => by have := (hf x hx).2.1; omega
        have hlen : (loseV l a b).length = l.length := lose_len l a b
        have hsm := loseV_small l a b 10000 hls
        have hown : (ownersV l p).length < 1000002 := by
          have : (ownersV l p).length ≤ l.length := by unfold ownersV; rw [List.length_map]; exact List.length_filter_le _ _
          omega
        rw [loseV_eq l a b hl' hls hb, ownersV_eq l p hl' hls, refOwnersV_eq l p hl' hls]
        simp only [Option.bind_some, List.drop_zero]
        rw [same_refl _ hown]
        simp only [Option.bind_some, Bool.not_true, cond_false]
        rw [refLose_eq l a b hl' hls hb]
        simp only [Option.bind_some, List.drop_zero]
        rw [lsame_refl _ (by omega) fun x h => by have := hsm x h; omega]
        simp only [Option.bind_some, Bool.not_true, cond_false, Sum.elim_inr]
        rw [findG _ a (by omega)]
        simp only [Option.bind_some]
        cases hg : firstG (keyL a) (loseV l a b) 0 with
        | none => rfl
        | some i =>
          have hi := firstG_lt _ _ i hg
          rw [show idxG (some i) = (i : Int) from rfl, decide_eq_false (by omega), if_pos (by omega), if_pos (by rw [Int.toNat_natCast]; omega)]
          simp only [cond_false, Int.toNat_natCast, Nat.zero_add]
          have hm : ((loseV l a b).getD i ([], [])) ∈ loseV l a b := by
            rw [List.getD_eq_getElem?_getD, List.getElem?_eq_getElem hi]; simp
          rw [refMinus_eq _ b hb (hsm _ hm), lose_there l a b i hg]
          simp only [Option.bind_some]
          rw [if_pos (by omega), if_pos (by omega), decide_eq_true (by omega)]
          rfl

end Go.Cellar
