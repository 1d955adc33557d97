/- The document's sorted list, by definition. No condition. -/
import Derived.Test.YtmeglodejjkmoaaDoorPl2q
import Derived.Test.YtmeglodejjkmoaaDoorPl2s
set_option linter.unusedSimpArgs false
set_option linter.unusedVariables false
set_option maxRecDepth 4000
namespace Go.Cellar
open Go

theorem has_eq (l : List Tx) (s : Tx) (hl : l.length < 4611686018427387904) : cellarerref02_Has l s = some (decide (s ∈ l)) := by
  unfold cellarerref02_Has
  have key : ∀ (r : List Tx) (k : Nat), l.drop k = r → iter (cellarerref02_Has_b0 l s) (k : Int) = some (if s ∈ r then .inl () else .inr ()) := by
    intro r
    induction r with
    | nil =>
      intro k h
      have hk := drop_nil h
      rw [iter_inr (t := .inr ())]
      · simp
      · unfold cellarerref02_Has_b0
        simp [show ¬ k < l.length by omega]
    | cons y r ih =>
      intro k h
      obtain ⟨g1, g2, g3⟩ := drop_cons h []
      by_cases hy : y = s
      · rw [iter_inr (t := .inl ())]
        · rw [if_pos (by rw [hy]; simp)]
        · unfold cellarerref02_Has_b0
          simp only [natlt, g1, decide_true, cond_true, Int.natCast_nonneg, true_and, if_true, Int.toNat_natCast, g2, hy]
      · rw [iter_inl (s' := ((k + 1 : Nat) : Int)), ih (k + 1) g3]
        · have : (s ∈ y :: r) = (s ∈ r) := by simp [Ne.symm hy]
          simp only [this]
        · unfold cellarerref02_Has_b0
          simp only [natlt, g1, decide_true, cond_true, Int.natCast_nonneg, true_and, if_true, Int.toNat_natCast, g2, hy, decide_false, cond_false, kplus g1 (by omega)]
  have h0 : iter (cellarerref02_Has_b0 l s) (0 : Int) = _ := key l 0 rfl
  rw [h0]
  by_cases h : s ∈ l <;> simp [h]

theorem least_loop (l out : List Tx) (hl : l.length < 1000000) (ho : out.length < 1000000) : ∀ (n i : Nat) (a : Int), l.length - i = n → i ≤ l.length → Least l out i a → ∃ a', iter (cellarerref02_Sorted_b0 l out) (a, (i : Int)) = some a' ∧ Least l out l.length a' := by
  intro n
  induction n with
  | zero =>
    intro i a hn hi h
    have : i = l.length := by omega
    subst this
    exact ⟨a, iter_inr (by unfold cellarerref02_Sorted_b0; simp), h⟩
  | succ n ih =>
    intro i a hn hi h
    have hil : i < l.length := by omega
    have hg : l.getD i [] = l[i] := by rw [List.getD_eq_getElem?_getD, List.getElem?_eq_getElem hil]; rfl
    by_cases hm : l[i] ∈ out
    · have hb : cellarerref02_Sorted_b0 l out (a, (i : Int)) = some (.inl (a, ((i + 1 : Nat) : Int))) := by
        unfold cellarerref02_Sorted_b0
        simp only [natlt, hil, decide_true, cond_true, Int.natCast_nonneg, true_and, if_true, Int.toNat_natCast, hg, List.drop_zero, has_eq out l[i] (by omega), hm, Option.bind_some, Bool.not_true, cond_false, kplus hil (by omega)]
      rw [iter_inl hb]
      refine ih (i + 1) a (by omega) (by omega) ?_
      rcases h with ⟨h1, h2⟩ | ⟨m, hml, h1, h2, h3, h4⟩
      · refine .inl ⟨h1, fun j hj hji => ?_⟩
        by_cases hq : j = i
        · subst hq; exact hm
        · exact h2 j hj (by omega)
      · refine .inr ⟨m, hml, h1, by omega, h3, fun j hj hji hno => ?_⟩
        by_cases hq : j = i
        · subst hq; exact absurd hm hno
        · exact h4 j hj (by omega) hno
    · rcases h with ⟨rfl, h2⟩ | ⟨m, hml, rfl, h2, h3, h4⟩
      · have hb : cellarerref02_Sorted_b0 l out ((-1 : Int), (i : Int)) = some (.inl ((i : Int), ((i + 1 : Nat) : Int))) := by
          unfold cellarerref02_Sorted_b0
          simp only [natlt, hil, decide_true, cond_true, Int.natCast_nonneg, true_and, if_true, Int.toNat_natCast, hg, List.drop_zero, has_eq out l[i] (by omega), hm, decide_false, Option.bind_some, Bool.not_false, kplus hil (by omega), show decide ((-1 : Int) < 0) = true from rfl]
        rw [iter_inl hb]
        refine ih (i + 1) _ (by omega) (by omega) (.inr ⟨i, hil, rfl, by omega, hm, fun j hj hji hno => ?_⟩)
        by_cases hq : j = i
        · subst hq; exact tx_irr _
        · exact absurd (h2 j hj (by omega)) hno
      · have hgm : l.getD m [] = l[m] := by rw [List.getD_eq_getElem?_getD, List.getElem?_eq_getElem hml]; rfl
        have hb : cellarerref02_Sorted_b0 l out ((m : Int), (i : Int)) = some (if l[i] < l[m] then .inl ((i : Int), ((i + 1 : Nat) : Int)) else .inl ((m : Int), ((i + 1 : Nat) : Int))) := by
          unfold cellarerref02_Sorted_b0
          simp only [natlt, hil, hml, decide_true, cond_true, Int.natCast_nonneg, true_and, if_true, Int.toNat_natCast, hg, hgm, List.drop_zero, has_eq out l[i] (by omega), hm, decide_false, Option.bind_some, Bool.not_false, kplus hil (by omega), Go.Proofs.bytesLess_eq]
          rw [decide_eq_false (show ¬ (m : Int) < 0 by omega)]
          by_cases hq : l[i] < l[m] <;> simp [hq]
        by_cases hq : l[i] < l[m]
        · rw [if_pos hq] at hb
          rw [iter_inl hb]
          refine ih (i + 1) _ (by omega) (by omega) (.inr ⟨i, hil, rfl, by omega, hm, fun j hj hji hno hlt => ?_⟩)
          by_cases hq2 : j = i
          · subst hq2; exact tx_irr _ hlt
          · exact h4 j hj (by omega) hno (tx_trans hlt hq)
        · rw [if_neg hq] at hb
          rw [iter_inl hb]
          refine ih (i + 1) _ (by omega) (by omega) (.inr ⟨m, hml, rfl, by omega, h3, fun j hj hji hno => ?_⟩)
          by_cases hq2 : j = i
          · subst hq2; exact hq
          · exact h4 j hj (by omega) hno

theorem gone_full {l out : List Tx} (h : Gone l out) (hl : out.length = l.length) : ∀ x ∈ l, x ∈ out := by
  intro x hx
  by_cases hn : x ∈ out
  · exact hn
  · have := nodup_len (l := l.erase x) h.1 fun y hy => (List.mem_erase_of_ne (fun e => hn (by rw [← e]; exact hy))).mpr (h.2.1 y hy)
    rw [List.length_erase_of_mem hx] at this
    have : 0 < l.length := List.length_pos_of_mem hx
    omega

theorem refSorted_loop (l : List Tx) (hl : l.length < 1000000) : ∀ (n k : Nat) (out : List Tx), l.length - k = n → k ≤ l.length → Gone l out → (out.length = k ∨ ∀ x ∈ l, x ∈ out) → iter (cellarerref02_Sorted_b1 l) ((k : Int), out) = some (sortedV l) := by
  intro n
  induction n with
  | zero =>
    intro k out hn hk hg hc
    have : k = l.length := by omega
    subst this
    have he : ∀ x ∈ l, x ∈ out := by
      rcases hc with hc | hc
      · exact gone_full hg hc
      · exact hc
    rw [← gone_end hg he]
    exact iter_inr (by unfold cellarerref02_Sorted_b1; simp)
  | succ n ih =>
    intro k out hn hk hg hc
    have hkl : k < l.length := by omega
    have hol : out.length ≤ l.length := nodup_len hg.1 hg.2.1
    obtain ⟨a, ha, hL⟩ := least_loop l out hl (by omega) l.length 0 (-1) (by omega) (by omega) (.inl ⟨rfl, fun j _ hj => by omega⟩)
    have ha' : iter (cellarerref02_Sorted_b0 l out) ((-1 : Int), (0 : Int)) = some a := ha
    rcases hL with ⟨rfl, h2⟩ | ⟨m, hml, rfl, h2, h3, h4⟩
    · rw [iter_inl (s' := (((k + 1 : Nat) : Int), out))]
      · refine ih (k + 1) out (by omega) (by omega) hg (.inr fun x hx => ?_)
        obtain ⟨j, hj, rfl⟩ := List.getElem_of_mem hx
        exact h2 j hj hj
      · unfold cellarerref02_Sorted_b1
        simp only [natlt, hkl, decide_true, cond_true, ha', Option.bind_some, kplus hkl (by omega)]
        rfl
    · have hgm : l.getD m [] = l[m] := by rw [List.getD_eq_getElem?_getD, List.getElem?_eq_getElem hml]; rfl
      rw [iter_inl (s' := (((k + 1 : Nat) : Int), out ++ [l[m]]))]
      · refine ih (k + 1) _ (by omega) (by omega) (gone_more hg hml h3 fun j hj hn => h4 j hj hj hn) ?_
        rcases hc with hc | hc
        · exact .inl (by simp [hc])
        · exact absurd (hc _ (List.getElem_mem hml)) h3
      · unfold cellarerref02_Sorted_b1
        simp only [natlt, hkl, hml, decide_true, cond_true, ha', Option.bind_some, Int.natCast_nonneg, true_and, if_true, Int.toNat_natCast, hgm, kplus hkl (by omega), List.drop_zero]
        rw [if_pos (by simp; omega)]

theorem refSorted_eq (l : List Tx) (hl : l.length < 1000000) : cellarerref02_Sorted l = some (sortedV l) := by
  unfold cellarerref02_Sorted
  have h : iter (cellarerref02_Sorted_b1 l) ((0 : Int), []) = some (sortedV l) := refSorted_loop l hl l.length 0 [] (by omega) (by omega) ⟨by simp [Rise], by simp, by simp⟩ (.inl rfl)
  rw [h]
  rfl

end Go.Cellar
