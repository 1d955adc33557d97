/- Any text as a list. No condition. -/
import Derived.Test.YtaopgboniaeeaaaDoorPl13g
set_option linter.unusedSimpArgs false
set_option linter.unusedVariables false
set_option maxRecDepth 8000
namespace Go.Cellar
open Go

theorem linesL_small (s : List UInt8) (hs : s.length ≤ 3000) : (∀ x ∈ (linesV s).2, x.length ≤ 3000) ∧ ∀ x ∈ (pieces_L s []).dropLast, x.length ≤ 3000 := by
  have hp : ∀ (t : List UInt8), t.length ≤ 3000 → ∀ x ∈ pieces_L t [], x.length ≤ 3000 := fun t ht => pieces_small t [] 3000 (by simpa using ht)
  refine ⟨?_, fun x hx => hp s hs x (List.dropLast_subset _ hx)⟩
  intro x hx
  unfold linesV at hx
  split at hx
  · cases hx
  · split at hx
    · exact hp _ (by simp; omega) x hx
    · cases hx

def rparseL (n s : List UInt8) : List UInt8 × List (List UInt8) × Bool := if (linesV s).1 = true ∧ rightL (n, (linesV s).2) = true then (n, (linesV s).2, true) else ([], [], false)

theorem rparseL_eq (n s : List UInt8) (hn : n.length ≤ 10000) (hs : s.length < 1000000) (h1 : SmP (pieces_L s []).dropLast) : cellarerref13_Parse n s = some (rparseL n s) := by
  unfold cellarerref13_Parse rparseL
  obtain ⟨e1, e2⟩ := refLines_eq s hs
  rw [e1]
  simp only [Option.bind_some, List.drop_zero, refPrintL_eq n _ (show n.length < 4611686018427387904 by omega) h1]
  by_cases hl : (linesV s).1 = true
  · rw [← e2 hl]
    simp only [hl, Bool.not_true, cond_false, true_and]
    have hj := lines_join hl
    unfold prnL
    cases hr : rightL (n, (linesV s).2) with
    | false => simp
    | true => simp [hj]
  · have hl' : (linesV s).1 = false := by simpa using hl
    rw [if_neg fun q => hl q.1, hl']
    rfl

theorem ListsParses_true (n s : List UInt8) : cellarerlaw13_ListsParses n s = some true := by
  unfold cellarerlaw13_ListsParses
  rw [awake13]
  by_cases h1 : (3000 : Int) < (s.length : Int)
  · rw [decide_eq_true h1]; rfl
  · rw [decide_eq_false h1]
    by_cases h2 : (300 : Int) < (n.length : Int)
    · rw [decide_eq_true h2]; rfl
    · rw [decide_eq_false h2]
      have hs : s.length ≤ 3000 := by omega
      obtain ⟨k1, k2⟩ := linesL_small s hs
      have hll := linesV_len s
      have hpl := pieces_L_len s []
      have hsm : SmP (linesV s).2 := ⟨by omega, fun p hp => by have := k1 p hp; omega⟩
      have hsm2 : SmP (pieces_L s []).dropLast := ⟨by simp; omega, fun p hp => by have := k2 p hp; omega⟩
      simp only [cond_false, Option.bind_some, Sum.elim_inr, parseL_eq n s (by omega) hsm, rparseL_eq n s (by omega) (by omega) hsm2]
      unfold parseL rparseL
      by_cases hc : (linesV s).1 = true ∧ rightL (n, (linesV s).2) = true
      · rw [if_pos hc, if_pos hc]
        have hj := lines_join hc.1
        simp only [decide_true, Bool.not_true, cond_false, Option.bind_some, Sum.elim_inr, lsame_refl [(n, (linesV s).2)] (by simp) (fun y hy => by simp at hy; subst hy; simp only; omega), printL_eq n _ hsm, prnL, hc.2, if_true, hj, cond_true]
      · rw [if_neg hc, if_neg hc]
        have hp : lists_Print [] [] = some (prnL ([], [])) := printL_eq [] [] ⟨by simp, fun p hp => by cases hp⟩
        simp only [lsame_refl [(([] : List UInt8), ([] : List (List UInt8)))] (by simp) (fun y hy => by simp at hy; subst hy; simp), hp, Option.bind_some]
        rfl

end Go.Cellar
