/- Sorted and compacted: rising, each once. No condition. -/
import Derived.Test.YtmeglodejjkmoaaDoorPl2s
import Derived.Test.YtmeglodejjkmoaaDoorAbs28
set_option linter.unusedSimpArgs false
set_option linter.unusedVariables false
namespace Go.Cellar
open Go

theorem keeps_at (zs : List Tx) (j : Nat) (hj : j < zs.length) : Lib.keeps zs.toArray j = decide (j = 0 ∨ zs.getD j [] ≠ zs.getD (j - 1) []) := by
  unfold Lib.keeps
  rw [getElem!_pos _ j (by simpa using hj), getElem!_pos _ (j - 1) (by simp; omega)]
  simp only [List.getElem_toArray, List.getD_eq_getElem?_getD, List.getElem?_eq_getElem hj, List.getElem?_eq_getElem (show j - 1 < zs.length by omega), Option.getD_some]

theorem compact_mem (zs : List Tx) (x : Tx) : x ∈ Lib.compact zs ↔ x ∈ zs := by
  unfold Lib.compact Lib.compactUpTo
  simp only [List.mem_map, List.mem_filter, List.mem_range]
  constructor
  · rintro ⟨j, ⟨hj, _⟩, rfl⟩
    rw [getElem!_pos _ j (by simpa using hj)]
    simp
  · intro hx
    obtain ⟨j, hj, hjx⟩ := List.getElem_of_mem hx
    have key : ∀ (j : Nat) (hj : j < zs.length), zs[j] = x → ∃ k, (k < zs.length ∧ Lib.keeps zs.toArray k = true) ∧ zs.toArray[k]! = x := by
      intro j
      induction j with
      | zero =>
        intro hj h
        refine ⟨0, ⟨hj, by rw [keeps_at zs 0 hj]; simp⟩, ?_⟩
        rw [getElem!_pos _ 0 (by simpa using hj)]
        simpa using h
      | succ j ih =>
        intro hj h
        by_cases hq : zs[j] = x
        · exact ih (by omega) hq
        · refine ⟨j + 1, ⟨hj, ?_⟩, ?_⟩
          · rw [keeps_at zs (j + 1) hj]
            simp only [List.getD_eq_getElem?_getD, List.getElem?_eq_getElem hj, Nat.add_sub_cancel, List.getElem?_eq_getElem (show j < zs.length by omega), Option.getD_some, h]
            exact decide_eq_true (.inr fun e => hq e.symm)
          · rw [getElem!_pos _ (j + 1) (by simpa using hj)]
            simpa using h
    exact key j hj hjx

theorem compact_rise (zs : List Tx) (h : zs.Pairwise fun x y => ¬ y < x) : Rise (Lib.compact zs) := by
  unfold Lib.compact Lib.compactUpTo Rise
  rw [List.pairwise_map]
  have hp : ((List.range zs.length).filter (Lib.keeps zs.toArray)).Pairwise fun i j => i < j ∧ (j < zs.length ∧ Lib.keeps zs.toArray j = true) := by
    have h1 : ((List.range zs.length).filter (Lib.keeps zs.toArray)).Pairwise (· < ·) := List.Pairwise.filter _ List.pairwise_lt_range
    refine List.Pairwise.imp_of_mem (fun {a b} ha hb hab => ?_) h1
    rw [List.mem_filter, List.mem_range] at hb
    exact ⟨hab, hb⟩
  refine hp.imp fun {i j} hij => ?_
  obtain ⟨hlt, hj, hk⟩ := hij
  rw [List.pairwise_iff_getElem] at h
  rw [keeps_at zs j hj] at hk
  simp only [decide_eq_true_eq] at hk
  have hne : zs[j] ≠ zs[j - 1] := by
    rcases hk with hk | hk
    · omega
    · simpa only [List.getD_eq_getElem?_getD, List.getElem?_eq_getElem hj, List.getElem?_eq_getElem (show j - 1 < zs.length by omega), Option.getD_some] using hk
  rw [getElem!_pos _ i (by simp; omega), getElem!_pos _ j (by simpa using hj)]
  simp only [List.getElem_toArray]
  have h1 : ¬ zs[j] < zs[j - 1] := h (j - 1) j (by omega) hj (by omega)
  have h2 : zs[j - 1] < zs[j] := by
    rcases tx_tri zs[j - 1] zs[j] with e | e | e
    · exact e
    · exact absurd e.symm hne
    · exact absurd e h1
  by_cases hij : i = j - 1
  · subst hij; exact h2
  · have h3 : ¬ zs[j - 1] < zs[i] := h i (j - 1) (by omega) (by omega) (by omega)
    rcases tx_tri zs[i] zs[j - 1] with e | e | e
    · exact tx_trans e h2
    · rw [e]; exact h2
    · exact absurd e h3

theorem compS_eq (l : List Tx) : compS l = sortedV l :=
  rise_unique _ _ (compact_rise _ (sortT_le l)) (sortedV_rise l) fun x => (compact_mem _ x).trans ((sortT_mem l x).trans (sortedV_mem l x).symm)

end Go.Cellar
