/- VersionOrders, as a plain law. No condition. -/
import Derived.Test.YtcbkbhmmehclmaaDoorPl5r
set_option linter.unusedSimpArgs false
namespace Go.Cellar
open Go

theorem order_loop (a b : List UInt8) (ha : a.length < 1152921504606846976) (hb : b.length < 1152921504606846976) : ∀ (n i k : Nat), (a.length - i) + (b.length - k) ≤ n → i ≤ a.length → k ≤ b.length →
    iter (version_Order_b1 a b) ((i : Int), (k : Int)) = some (if ordC (a.drop i) (b.drop k) = 0 then .inr () else .inl (ordC (a.drop i) (b.drop k))) := by
  intro n
  induction n with
  | zero =>
    intro i k h hi hk
    have e1 : a.drop i = [] := List.drop_eq_nil_of_le (by omega)
    have e2 : b.drop k = [] := List.drop_eq_nil_of_le (by omega)
    rw [e1, e2, iter_inr (t := .inr ())]
    · simp [ordC, cmpL_self]
    · unfold version_Order_b1
      simp [show ¬ i < a.length by omega, show ¬ k < b.length by omega]
  | succ n ih =>
    intro i k h hi hk
    by_cases hend : a.length ≤ i ∧ b.length ≤ k
    · exact ih i k (by omega) hi hk
    · have p1 := drop_takeWhile nd a i
      have p2 := drop_takeWhile nd b k
      have f1 := takeWhile_fits nd a i hi
      have f2 := takeWhile_fits nd b k hk
      have q1 := drop_takeWhile isD a (i + ((a.drop i).takeWhile nd).length)
      have q2 := drop_takeWhile isD b (k + ((b.drop k).takeWhile nd).length)
      have g1 := takeWhile_fits isD a _ f1
      have g2 := takeWhile_fits isD b _ f2
      have n1 := number_eq a (by omega) _ f1
      have n2 := number_eq b (by omega) _ f2
      have w := in_loop a b (by omega) (by omega) _ i k rfl hi hk
      simp only [word] at w
      rw [p1] at q1 g1 n1
      rw [p2] at q2 g2 n2
      have hbody : version_Order_b1 a b ((i : Int), (k : Int)) = some (if wordsC (word (a.drop i)) (word (b.drop k)) ≠ 0 then .inr (.inl (wordsC (word (a.drop i)) (word (b.drop k)))) else if numC (numb (a.drop i)) (numb (b.drop k)) ≠ 0 then .inr (.inl (numC (numb (a.drop i)) (numb (b.drop k)))) else
          .inl (((i + ((a.drop i).takeWhile nd).length + (((a.drop i).dropWhile nd).takeWhile isD).length : Nat) : Int), ((k + ((b.drop k).takeWhile nd).length + (((b.drop k).dropWhile nd).takeWhile isD).length : Nat) : Int))) := by
        unfold version_Order_b1
        have hc : (bif decide ((i : Int) < (a.length : Int)) then some (Sum.inl ()) else bif decide ((k : Int) < (b.length : Int)) then some (Sum.inl ()) else some (Sum.inr ())) = (some (Sum.inl ()) : Option (Unit ⊕ Unit)) := by
          by_cases h1 : i < a.length
          · simp [h1]
          · simp [h1, show k < b.length by omega]
        simp only [hc]
        simp only [Option.bind_some, Sum.elim_inl, w, word]
        by_cases c1 : wordsC ((a.drop i).takeWhile nd) ((b.drop k).takeWhile nd) = 0
        · simp only [c1, if_true, Option.bind_some, Sum.elim_inr, n1, n2, ne_eq, not_true_eq_false, if_false, cmpInt_eq, cmpString_eq]
          show (bif decide (numb (a.drop i) = numb (b.drop k)) then _ else _) = _
          simp only [show ((((a.drop i).dropWhile nd).takeWhile isD).dropWhile is0) = numb (a.drop i) from rfl, show ((((b.drop k).dropWhile nd).takeWhile isD).dropWhile is0) = numb (b.drop k) from rfl, numC, natlt]
          generalize numb (a.drop i) = x
          generalize numb (b.drop k) = y
          by_cases c2 : x = y
          · subst c2
            have := @cmpS_zero x x
            simp [this.mpr rfl]
          · have c3 : cmpS x y ≠ 0 := fun c => c2 (cmpS_zero.mp c)
            by_cases c4 : x.length < y.length
            · simp [c2, c4]
            · by_cases c5 : y.length < x.length
              · simp [c2, c4, c5]
              · simp [c2, c3, c4, c5]
        · simp only [c1, if_false, Option.bind_some, Sum.elim_inl, ne_eq, not_false_eq_true, if_true]
      rw [ord_step]
      by_cases c1 : wordsC (word (a.drop i)) (word (b.drop k)) = 0
      · by_cases c2 : numC (numb (a.drop i)) (numb (b.drop k)) = 0
        · simp only [c1, c2, ne_eq, not_true_eq_false, if_false] at hbody ⊢
          have hr1 : rest (a.drop i) = a.drop (i + ((a.drop i).takeWhile nd).length + (((a.drop i).dropWhile nd).takeWhile isD).length) := q1.symm
          have hr2 : rest (b.drop k) = b.drop (k + ((b.drop k).takeWhile nd).length + (((b.drop k).dropWhile nd).takeWhile isD).length) := q2.symm
          have hle : ∀ s : List UInt8, (rest s).length ≤ s.length := fun s => by
            by_cases hs : s = []
            · subst hs; exact Nat.le_refl _
            · exact Nat.le_of_lt (rest_lt hs)
          have l1 := hle (a.drop i)
          have l2 := hle (b.drop k)
          have hlt : (rest (a.drop i)).length + (rest (b.drop k)).length < (a.drop i).length + (b.drop k).length := by
            by_cases hs : a.drop i = []
            · have hs2 : b.drop k ≠ [] := by
                intro hs2
                have := drop_nil hs; have := drop_nil hs2; omega
              have := rest_lt hs2
              omega
            · have := rest_lt hs
              omega
          rw [hr1, hr2] at hlt
          simp only [List.length_drop] at hlt
          rw [iter_inl hbody, ih _ _ (by omega) (by omega) (by omega), hr1, hr2]
        · simp only [c1, c2, ne_eq, not_true_eq_false, not_false_eq_true, if_false, if_true] at hbody ⊢
          rw [iter_inr hbody]
      · simp only [c1, ne_eq, not_false_eq_true, if_true] at hbody ⊢
        rw [iter_inr hbody]
        simp

theorem order_eq (a b : List UInt8) (ha : a.length < 1152921504606846976) (hb : b.length < 1152921504606846976) : version_Order a b = some (ordC a b) := by
  unfold version_Order
  have := order_loop a b ha hb _ 0 0 (Nat.le_refl _) (by omega) (by omega)
  rw [show ((0 : Int)) = ((0 : Nat) : Int) from rfl, this]
  simp only [List.drop_zero]
  by_cases c : ordC a b = 0 <;> simp [c]

theorem ordC_swap (a b : List UInt8) : ordC b a = - ordC a b := cmpL_swap _ _ _ (Nat.le_refl _)
theorem ordC_range (a b : List UInt8) : ordC a b = -1 ∨ ordC a b = 0 ∨ ordC a b = 1 := cmpL_range _ _ _ (Nat.le_refl _)

theorem VersionOrders_true (a b : List UInt8) : cellarerlaw05_VersionOrders a b = some true := by
  unfold cellarerlaw05_VersionOrders
  simp only [awake5, Option.bind_some, Bool.cond_decide]
  by_cases c1 : (500 : Int) < (a.length : Int)
  · simp [c1]
  · by_cases c2 : (500 : Int) < (b.length : Int)
    · simp [c1, c2]
    · rw [order_eq a b (by omega) (by omega), order_eq b a (by omega) (by omega), order_eq a a (by omega) (by omega), refOrder_eq a b (by omega), ordC_swap a b]
      have e0 : ordC a a = 0 := cmpL_self _
      have := ordC_range a b
      have e1 : IntKind.wrap IntKind.i64 ((0 : Int) - ordC a b) = - ordC a b := by rw [w64 (by omega) (by omega)]; omega
      simp only [c1, c2, e0, e1, if_false, Option.bind_some, Sum.elim_inr, if_true]

end Go.Cellar
