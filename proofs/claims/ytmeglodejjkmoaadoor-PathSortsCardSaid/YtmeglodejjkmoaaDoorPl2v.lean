/- PathSorts, as a plain law. No condition. -/
import Derived.Test.YtmeglodejjkmoaaDoorPl2t
import Derived.Test.YtmeglodejjkmoaaDoorPl2u
set_option linter.unusedSimpArgs false
set_option linter.unusedVariables false
set_option maxRecDepth 4000
namespace Go.Cellar
open Go

theorem awake2s : cellarerlaw02_awake = some true := by kernel_rfl

theorem pathSorted_eq (l : List Tx) (hl : l.length < 1000000) : path_Sorted l = some (sortedV l) := by
  unfold path_Sorted
  rw [if_pos (by omega), compS_eq]

theorem same2_eq (a : List Tx) (ha : a.length < 1000000) : cellarerref02_Same a a = some true := by
  unfold cellarerref02_Same
  rw [same_loop a a rfl (by omega)]
  simp

theorem sorts_b0 (l : List Tx) (hl : l.length < 1000000) : ∃ x, iter (cellarerlaw02_PathSorts_b0 l) (0 : Int) = some x ∧ ∀ b, x = .inl b → b = true := by
  have key : ∀ (r : List Tx) (k : Nat), l.drop k = r → ∃ x, iter (cellarerlaw02_PathSorts_b0 l) (k : Int) = some x ∧ ∀ b, x = .inl b → b = true := by
    intro r
    induction r with
    | nil =>
      intro k h
      have hk := drop_nil h
      refine ⟨.inr (), iter_inr ?_, fun b hb => by cases hb⟩
      unfold cellarerlaw02_PathSorts_b0
      simp [show ¬ k < l.length by omega]
    | cons y r ih =>
      intro k h
      obtain ⟨g1, g2, g3⟩ := drop_cons h []
      by_cases hy : 300 < y.length
      · refine ⟨.inl true, iter_inr ?_, fun b hb => by cases hb; rfl⟩
        unfold cellarerlaw02_PathSorts_b0
        simp only [natlt, g1, decide_true, cond_true, Int.natCast_nonneg, true_and, if_true, Int.toNat_natCast, g2, awake2s, Option.bind_some]
        rw [decide_eq_true (show (300 : Int) < (y.length : Int) by omega)]
        rfl
      · obtain ⟨x, h1, h2⟩ := ih (k + 1) g3
        refine ⟨x, ?_, h2⟩
        rw [iter_inl (s' := ((k + 1 : Nat) : Int))]
        · exact h1
        · unfold cellarerlaw02_PathSorts_b0
          simp only [natlt, g1, decide_true, cond_true, Int.natCast_nonneg, true_and, if_true, Int.toNat_natCast, g2, kplus g1 (by omega)]
          rw [decide_eq_false (show ¬ (300 : Int) < (y.length : Int) by omega)]
          rfl
  exact key l 0 rfl

theorem sorts_b1 (a : List Tx) (ha : a.length < 1000000) (hr : Rise a) : iter (cellarerlaw02_PathSorts_b1 a) (0 : Int) = some (.inr ()) := by
  have key : ∀ (r : List Tx) (k : Nat), a.drop k = r → iter (cellarerlaw02_PathSorts_b1 a) (k : Int) = some (.inr ()) := by
    intro r
    induction r with
    | nil =>
      intro k h
      have hk := drop_nil h
      refine iter_inr ?_
      unfold cellarerlaw02_PathSorts_b1
      rw [decide_eq_false (by omega)]
      rfl
    | cons y r ih =>
      intro k h
      obtain ⟨g1, g2, g3⟩ := drop_cons h []
      rw [iter_inl (s' := ((k + 1 : Nat) : Int)), ih (k + 1) g3]
      unfold cellarerlaw02_PathSorts_b1
      rw [decide_eq_true (by omega), kplus g1 (by omega)]
      simp only [cond_true]
      by_cases hk : k = 0
      · subst hk
        rw [decide_eq_false (by omega)]
        rfl
      · have hp : IntKind.wrap IntKind.i64 ((k : Int) - 1) = ((k - 1 : Nat) : Int) := by rw [w64 (by omega) (by omega)]; omega
        rw [decide_eq_true (show (0 : Int) < (k : Int) by omega), hp, if_pos (by omega), if_pos (by rw [Int.toNat_natCast]; omega), if_pos (by omega), if_pos (by rw [Int.toNat_natCast]; omega)]
        simp only [cond_true, Int.toNat_natCast, Nat.zero_add]
        have hlt : a.getD (k - 1) [] < a.getD k [] := by
          unfold Rise at hr
          rw [List.pairwise_iff_getElem] at hr
          have := hr (k - 1) k (by omega) g1 (by omega)
          simpa only [List.getD_eq_getElem?_getD, List.getElem?_eq_getElem g1, List.getElem?_eq_getElem (show k - 1 < a.length by omega), Option.getD_some] using this
        rw [Go.Proofs.bytesLess_eq, decide_eq_true hlt]
        rfl
  exact key a 0 rfl

theorem PathSorts_true (l : List Tx) : cellarerlaw02_PathSorts l = some true := by
  unfold cellarerlaw02_PathSorts
  rw [awake2s]
  by_cases h : 60 < l.length
  · rw [decide_eq_true (show (60 : Int) < (l.length : Int) by omega)]; rfl
  · rw [decide_eq_false (show ¬ (60 : Int) < (l.length : Int) by omega)]
    simp only [cond_false]
    obtain ⟨x, h1, h2⟩ := sorts_b0 l (by omega)
    rw [h1]
    cases x with
    | inl b => rw [h2 b rfl]; rfl
    | inr u =>
      have hlen := sortedV_len l
      have hre : sortedV (sortedV l) = sortedV l := sortedV_of_rise (sortedV_rise l)
      simp only [Option.bind_some, Sum.elim_inr]
      rw [pathSorted_eq l (by omega)]
      simp only [Option.bind_some]
      rw [sorts_b1 _ (by omega) (sortedV_rise l)]
      simp only [Option.bind_some, Sum.elim_inr]
      rw [refSorted_eq l (by omega)]
      simp only [Option.bind_some, List.drop_zero]
      rw [same2_eq _ (by omega)]
      simp only [Option.bind_some, cond_true]
      rw [pathSorted_eq _ (by omega), hre]
      simp only [Option.bind_some]
      rw [same2_eq _ (by omega)]
      rfl

end Go.Cellar
