/- Records but one name's; relations that mean a package. No condition. -/
import Derived.Test.YtapfjjbgcfnnmaaDoorPl20n
set_option linter.unusedSimpArgs false
set_option linter.unusedVariables false
set_option maxRecDepth 8000
set_option synthInstance.maxHeartbeats 2000000
set_option synthInstance.maxSize 281474976710656
namespace Go.Cellar
open Go

def keepP (n : List UInt8) (x : Rec) : Bool := !decide (x.1 = n)
def dropV (n : List UInt8) (l : List Rec) : List Rec := l.filter (keepP n)

theorem clone_eq (l : List Rec) (hl : l.length < 1000000) : api_Record__35 l = some l := by
  unfold api_Record__35
  rw [if_pos (by omega)]
  cases l with
  | nil =>
    unfold mayb both
    simp
  | cons x l => rfl

theorem refDrop_eq (l : List Rec) (n : List UInt8) (hl : l.length < 1000000) : cellarerref08_Drop l n = some (dropV n l) := by
  unfold cellarerref08_Drop
  have := pick_loop (cellarerref08_Drop_b0 l n) (keepP n) (fun x => x) l (fun k out hk => by
    unfold cellarerref08_Drop_b0
    simp [show ¬ k < l.length by omega]) (fun k x r out h ho => by
    obtain ⟨g1, g2, g3⟩ := drop_cons h z9
    unfold cellarerref08_Drop_b0 keepP
    simp only [natlt, g1, decide_true, cond_true, Int.natCast_nonneg, true_and, if_true, Int.toNat_natCast, g2, kplus g1 (by omega)]
    by_cases hx : x.1 = n
    · rw [decide_eq_true hx]; rfl
    · rw [decide_eq_false hx, if_pos (by simp; omega)]; rfl) l 0 [] rfl (by simp)
  have h2 : iter (cellarerref08_Drop_b0 l n) ((0 : Int), []) = some ([] ++ (l.filter (keepP n)).map fun x => x) := this
  rw [h2]
  simp [dropV]

/-- The first place of a name. -/
theorem index_loop (l : List Rec) (n : List UInt8) (hl : l.length < 1000000) : ∀ (r : List Rec) (k : Nat), l.drop k = r → (∀ x ∈ l.take k, keepP n x = true) →
    (iter (api_Record__44_b0 l ((l.length : Nat) : Int)) ((k : Int), n) = some (.inr n) ∧ ∀ x ∈ l, keepP n x = true) ∨
    ∃ (m : Nat), m < l.length ∧ iter (api_Record__44_b0 l ((l.length : Nat) : Int)) ((k : Int), n) = some (.inl ((m : Int), n)) ∧ (∀ x ∈ l.take m, keepP n x = true) ∧ keepP n (l.getD m z9) = false := by
  intro r
  induction r with
  | nil =>
    intro k h ht
    have hk := drop_nil h
    left
    refine ⟨iter_inr ?_, fun x hx => ht x ?_⟩
    · unfold api_Record__44_b0
      simp [show ¬ k < l.length by omega]
    · rw [List.take_of_length_le hk]; exact hx
  | cons y r ih =>
    intro k h ht
    obtain ⟨g1, g2, g3⟩ := drop_cons h z9
    by_cases hy : y.1 = n
    · right
      refine ⟨k, g1, iter_inr ?_, ht, ?_⟩
      · unfold api_Record__44_b0 status_Drop_1
        simp only [natlt, g1, decide_true, cond_true, Int.natCast_nonneg, true_and, if_true, Int.toNat_natCast, g2, hy, Option.bind_some]
      · unfold keepP
        rw [g2, decide_eq_true hy]; rfl
    · have hb : api_Record__44_b0 l ((l.length : Nat) : Int) ((k : Int), n) = some (.inl (((k + 1 : Nat) : Int), n)) := by
        unfold api_Record__44_b0 status_Drop_1
        simp only [natlt, g1, decide_true, cond_true, Int.natCast_nonneg, true_and, if_true, Int.toNat_natCast, g2, hy, decide_false, Option.bind_some, cond_false, kplus g1 (by omega)]
      rw [iter_inl hb]
      refine ih (k + 1) g3 fun x hx => ?_
      rw [List.take_add_one, List.mem_append] at hx
      rcases hx with hx | hx
      · exact ht x hx
      · have : l[k]? = some y := by
          rw [List.getElem?_eq_getElem g1]
          rw [List.getD_eq_getElem?_getD, List.getElem?_eq_getElem g1] at g2
          exact congrArg some g2
        rw [this] at hx
        simp only [Option.toList_some, List.mem_singleton] at hx
        subst hx
        unfold keepP
        rw [decide_eq_false hy]; rfl

theorem del_loop (n : List UInt8) (l : List Rec) (hl : l.length < 1000000) : ∀ (r : List Rec) (j i : Nat) (c : List Rec), l.drop j = r → i ≤ j → j ≤ l.length → c.length = l.length → c.drop j = l.drop j → c.take i = (l.take j).filter (keepP n) →
    ∃ (i' : Nat) (c' : List Rec), iter api_Record__34_b0 ((i : Int), (j : Int), n, c) = some ((i' : Int), n, c') ∧ i' ≤ c'.length ∧ c'.take i' = l.filter (keepP n) := by
  intro r
  induction r with
  | nil =>
    intro j i c h hij hj hc hd ht
    have hk := drop_nil h
    refine ⟨i, c, iter_inr ?_, by omega, ?_⟩
    · unfold api_Record__34_b0
      simp only [Prod.snd, Prod.fst]
      rw [decide_eq_false (by omega)]
      rfl
    · rw [ht, List.take_of_length_le hk]
  | cons y r ih =>
    intro j i c h hij hj hc hd ht
    obtain ⟨g1, g2, g3⟩ := drop_cons h z9
    obtain ⟨k1, k2, k3⟩ := drop_cons (hd.trans h) z9
    have hlj : l[j]? = some y := by
      rw [List.getElem?_eq_getElem g1]
      rw [List.getD_eq_getElem?_getD, List.getElem?_eq_getElem g1] at g2
      exact congrArg some g2
    by_cases hy : y.1 = n
    · have hb : api_Record__34_b0 ((i : Int), (j : Int), n, c) = some (.inl ((i : Int), ((j + 1 : Nat) : Int), n, c)) := by
        unfold api_Record__34_b0 status_Drop_1
        simp only [Prod.snd, Prod.fst]
        rw [decide_eq_true (by omega), if_pos (by omega), if_pos (by rw [Int.toNat_natCast]; omega), kplus k1 (by omega)]
        simp only [cond_true, Option.bind_some, Int.toNat_natCast, Nat.zero_add, k2, hy, decide_true, Bool.not_true, cond_false]
      rw [iter_inl hb]
      refine ih (j + 1) i c g3 (by omega) (by omega) hc ?_ ?_
      · rw [← List.drop_drop, hd, List.drop_drop]
      · rw [ht, List.take_add_one, hlj]
        simp [keepP, hy]
    · have hb : api_Record__34_b0 ((i : Int), (j : Int), n, c) = some (.inl (((i + 1 : Nat) : Int), ((j + 1 : Nat) : Int), n, c.set i y)) := by
        unfold api_Record__34_b0 status_Drop_1
        simp only [Prod.snd, Prod.fst]
        rw [decide_eq_true (by omega), if_pos (by omega), if_pos (by rw [Int.toNat_natCast]; omega), kplus k1 (by omega), kplus (show i < c.length by omega) (by omega)]
        simp only [cond_true, Option.bind_some, Int.toNat_natCast, Nat.zero_add, k2, hy, decide_false, Bool.not_false, cond_true]
        rw [if_pos (by omega), if_pos (by omega)]
      rw [iter_inl hb]
      refine ih (j + 1) (i + 1) (c.set i y) g3 (by omega) (by omega) (by simpa using hc) ?_ ?_
      · rw [List.drop_set_of_lt (by omega), ← List.drop_drop, hd, List.drop_drop]
      · rw [List.take_add_one, List.take_set_of_le (Nat.le_refl i), ht, List.take_add_one, hlj, List.filter_append]
        simp only [List.getElem?_set_self (show i < c.length by omega), Option.toList_some]
        simp [keepP, hy]

theorem drop_eq (l : List Rec) (n : List UInt8) (hl : l.length < 1000000) : status_Drop l n = some (dropV n l) := by
  unfold status_Drop api_Record__34 api_Record__44
  rw [clone_eq l hl]
  simp only [Option.bind_some, List.drop_zero]
  rcases index_loop l n hl l 0 rfl (by simp) with ⟨h1, h2⟩ | ⟨m, hm, h1, h2, h3⟩
  · have h1' : iter (api_Record__44_b0 l ((l.length : Nat) : Int)) ((0 : Int), n) = some (.inr n) := h1
    rw [h1']
    simp only [Option.bind_some, Sum.elim_inr, decide_true, cond_true]
    congr 1
    unfold dropV
    exact (List.filter_eq_self.mpr h2).symm
  · have h1' : iter (api_Record__44_b0 l ((l.length : Nat) : Int)) ((0 : Int), n) = some (.inl ((m : Int), n)) := h1
    rw [h1']
    simp only [Option.bind_some, Sum.elim_inl]
    rw [decide_eq_false (show ¬ (m : Int) = -1 by omega), kplus hm (by omega)]
    simp only [cond_false]
    have hlm : l[m]? = some (l.getD m z9) := by
      rw [List.getElem?_eq_getElem hm, List.getD_eq_getElem?_getD, List.getElem?_eq_getElem hm]; rfl
    obtain ⟨i', c', e1, e2, e3⟩ := del_loop n l hl _ (m + 1) m l rfl (by omega) (by omega) rfl rfl (by
      rw [List.take_add_one, hlm, List.filter_append, List.filter_eq_self.mpr h2, Option.toList_some, List.filter_cons_of_neg (by rw [h3]; simp), List.filter_nil, List.append_nil])
    rw [e1]
    simp only [Option.bind_some]
    rw [if_pos (by omega), if_pos (by simp; omega)]
    simp only [Option.bind_some, Int.toNat_natCast, Nat.zero_add]
    congr 1
    rw [List.take_append_of_le_length (by simp; omega), List.take_take, Nat.min_self, e3]
    rfl

theorem drop_sm {l : List Rec} {n : List UInt8} (h : ∀ x ∈ l, SmR x) : ∀ x ∈ dropV n l, SmR x := fun x hx => h x (List.mem_filter.mp hx).1

theorem drop_len (l : List Rec) (n : List UInt8) : (dropV n l).length ≤ l.length := List.length_filter_le _ _

end Go.Cellar
