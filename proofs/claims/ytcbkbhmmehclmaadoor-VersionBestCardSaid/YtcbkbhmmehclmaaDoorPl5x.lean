/- VersionBest, as a plain law. No condition. -/
import Derived.Test.YtcbkbhmmehclmaaDoorPl5v
set_option linter.unusedSimpArgs false
namespace Go.Cellar
open Go

def at5 (l : List (List UInt8)) (i : Nat) : Int × List UInt8 × List UInt8 := parsedV (l.getD i [])

theorem short_loop (l : List (List UInt8)) (hl : l.length ≤ 40) : ∀ (r : List (List UInt8)) (k : Nat), l.drop k = r →
    iter (cellarerlaw05_VersionBest_b0 l) (k : Int) = some (.inl true) ∨ (iter (cellarerlaw05_VersionBest_b0 l) (k : Int) = some (.inr ()) ∧ ∀ x ∈ r, x.length ≤ 200) := by
  intro r
  induction r with
  | nil =>
    intro k h
    have := drop_nil h
    refine .inr ⟨?_, by simp⟩
    rw [iter_inr (t := .inr ())]
    unfold cellarerlaw05_VersionBest_b0
    simp [show ¬ k < l.length by omega]
  | cons x r ih =>
    intro k h
    obtain ⟨g1, g2, g3⟩ := drop_cons h []
    have hbody : cellarerlaw05_VersionBest_b0 l (k : Int) = some (if 200 < x.length then .inr (.inl true) else .inl ((k + 1 : Nat) : Int)) := by
      unfold cellarerlaw05_VersionBest_b0
      simp only [natlt, g1, decide_true, cond_true, Int.natCast_nonneg, true_and, if_true, Int.toNat_natCast, g2, awake5, Option.bind_some]
      rw [w64 (by omega) (by omega)]
      by_cases c : 200 < x.length
      · simp [c, show (200 : Int) < (x.length : Int) by omega]
      · simp [c, show ¬ (200 : Int) < (x.length : Int) by omega]
    by_cases c : 200 < x.length
    · rw [if_pos c] at hbody
      exact .inl (iter_inr hbody)
    · rw [if_neg c] at hbody
      rw [iter_inl hbody]
      rcases ih (k + 1) g3 with h1 | ⟨h1, h2⟩
      · exact .inl h1
      · exact .inr ⟨h1, by
          intro y hy
          simp only [List.mem_cons] at hy
          rcases hy with rfl | hy
          · omega
          · exact h2 y hy⟩

/-- What the best one is, of the first so many. -/
def BestAt (l : List (List UInt8)) (a i : Nat) : Prop := a < i ∧ (∀ j, j < i → cmpV (at5 l j) (at5 l a) ≤ 0) ∧ ∀ j, j < a → cmpV (at5 l j) (at5 l a) < 0

theorem getD_len {l : List (List UInt8)} (h : ∀ x ∈ l, x.length ≤ 200) (i : Nat) : (l.getD i []).length ≤ 200 := by
  rw [List.getD_eq_getElem?_getD]
  cases hx : l[i]? with
  | none => simp
  | some x => simpa using h x (List.mem_of_getElem? hx)

theorem best_loop (l : List (List UInt8)) (hl : l.length ≤ 40) (hs : ∀ x ∈ l, x.length ≤ 200) : ∀ (n i a : Nat), l.length - i ≤ n → i ≤ l.length → BestAt l a i →
    ∃ b : Nat, iter (version_Best_b0 l l (l.length : Int)) ((a : Int), (i : Int)) = some (b : Int) ∧ BestAt l b l.length := by
  intro n
  induction n with
  | zero =>
    intro i a h hi hb
    have e : i = l.length := by omega
    subst e
    refine ⟨a, ?_, hb⟩
    rw [iter_inr (t := (a : Int))]
    unfold version_Best_b0
    simp
  | succ n ih =>
    intro i a h hi hb
    by_cases hend : i = l.length
    · exact ih i a (by omega) hi hb
    · have hlt : i < l.length := by omega
      have h1 := getD_len hs i
      have h2 := getD_len hs a
      have hbody : version_Best_b0 l l (l.length : Int) ((a : Int), (i : Int)) = some (.inl ((if 0 < cmpV (at5 l i) (at5 l a) then (i : Int) else (a : Int)), ((i + 1 : Nat) : Int))) := by
        unfold version_Best_b0
        simp only [natlt, hlt, decide_true, cond_true, Int.natCast_nonneg, true_and, if_true, show ¬ (a : Int) < 0 by omega, decide_false, cond_false, Int.toNat_natCast, show a < l.length by have := hb.1; omega, compare_eq _ _ (show (l.getD i []).length ≤ 1000 by omega) (show (l.getD a []).length ≤ 1000 by omega), Option.bind_some]
        rw [w64 (by omega) (by omega)]
        show (bif decide (0 < cmpV (at5 l i) (at5 l a)) then _ else _) = _
        by_cases c : 0 < cmpV (at5 l i) (at5 l a) <;> simp [c]
      by_cases c : 0 < cmpV (at5 l i) (at5 l a)
      · rw [if_pos c] at hbody
        rw [iter_inl hbody]
        have hlow : ∀ j, j < i → cmpV (at5 l j) (at5 l i) < 0 := fun j hj => by
          have h3 := hb.2.1 j hj
          have h4 : cmpV (at5 l a) (at5 l i) < 0 := by rw [cmpV_swap]; omega
          exact ((cmpV_T3 (at5 l j) (at5 l a) (at5 l i)).1 h3 (by omega)).2 (.inr h4)
        refine ih (i + 1) i (by omega) (by omega) ⟨by omega, fun j hj => ?_, hlow⟩
        by_cases hji : j = i
        · subst hji; rw [cmpV_self]; omega
        · have := hlow j (by omega); omega
      · rw [if_neg c] at hbody
        rw [iter_inl hbody]
        refine ih (i + 1) a (by omega) (by omega) ⟨by have := hb.1; omega, fun j hj => ?_, hb.2.2⟩
        by_cases hji : j = i
        · subst hji; omega
        · exact hb.2.1 j (by omega)

theorem best_eq (l : List (List UInt8)) (hl : l.length ≤ 40) (hs : ∀ x ∈ l, x.length ≤ 200) : (l = [] ∧ version_Best l = some (-1)) ∨ ∃ b : Nat, version_Best l = some (b : Int) ∧ BestAt l b l.length := by
  unfold version_Best
  by_cases h0 : l = []
  · subst h0
    refine .inl ⟨rfl, ?_⟩
    rw [iter_inr (t := -1)]
    · rfl
    · unfold version_Best_b0
      simp
  · have hpos : 0 < l.length := List.length_pos_iff.mpr h0
    right
    obtain ⟨b, h1, h2⟩ := best_loop l hl hs l.length 1 0 (by omega) (by omega) ⟨by omega, fun j hj => by
      obtain rfl : j = 0 := by omega
      rw [cmpV_self]; omega, fun j hj => by omega⟩
    refine ⟨b, ?_, h2⟩
    rw [iter_inl (s' := ((0 : Int), (1 : Int)))]
    · rw [show ((0 : Int), (1 : Int)) = (((0 : Nat) : Int), ((1 : Nat) : Int)) from rfl, h1]
      rfl
    · unfold version_Best_b0
      simp only [show (0 : Int) < (l.length : Int) by omega, decide_true, cond_true, Int.le_refl, and_self, if_true]
      rw [w64 (by omega) (by omega)]
      rfl

theorem check_loop (l : List (List UInt8)) (hl : l.length ≤ 40) (hs : ∀ x ∈ l, x.length ≤ 200) (a : Nat) (hb : BestAt l a l.length) : ∀ (n k : Nat), l.length - k ≤ n →
    iter (cellarerlaw05_VersionBest_b1 l (a : Int)) (k : Int) = some (.inr ()) := by
  intro n
  induction n with
  | zero =>
    intro k h
    rw [iter_inr (t := .inr ())]
    unfold cellarerlaw05_VersionBest_b1
    simp [show ¬ k < l.length by omega]
  | succ n ih =>
    intro k h
    by_cases hend : l.length ≤ k
    · exact ih k (by omega)
    · have h1 := getD_len hs k
      have h2 := getD_len hs a
      rw [iter_inl (s' := ((k + 1 : Nat) : Int)), ih (k + 1) (by omega)]
      unfold cellarerlaw05_VersionBest_b1
      simp only [natlt, show k < l.length by omega, decide_true, cond_true, Int.natCast_nonneg, true_and, if_true, Int.toNat_natCast, hb.1, compare_eq _ _ (show (l.getD k []).length ≤ 1000 by omega) (show (l.getD a []).length ≤ 1000 by omega), Option.bind_some]
      rw [w64 (by omega) (by omega)]
      show (bif decide (0 < cmpV (at5 l k) (at5 l a)) then _ else bif decide (cmpV (at5 l k) (at5 l a) = 0) then _ else _) = _
      have h3 := hb.2.1 k (by omega)
      have h4 := hb.2.2 k
      by_cases c : cmpV (at5 l k) (at5 l a) = 0
      · have : ¬ k < a := fun hk => by have := h4 hk; omega
        simp [c, this]
      · simp [c, show ¬ 0 < cmpV (at5 l k) (at5 l a) by omega]

theorem VersionBest_true (l : List (List UInt8)) : cellarerlaw05_VersionBest l = some true := by
  unfold cellarerlaw05_VersionBest
  simp only [awake5, Option.bind_some]
  by_cases c1 : (40 : Int) < (l.length : Int)
  · simp [c1]
  · simp only [c1, decide_false, cond_false]
    rcases short_loop l (by omega) l 0 rfl with h | ⟨h, hs⟩
    · rw [show ((0 : Int)) = ((0 : Nat) : Int) from rfl, h]
      rfl
    · rw [show ((0 : Int)) = ((0 : Nat) : Int) from rfl, h]
      simp only [Option.bind_some, Sum.elim_inr]
      rcases best_eq l (by omega) hs with ⟨rfl, h1⟩ | ⟨b, h1, h2⟩
      · rw [h1]; rfl
      · rw [h1]
        have hb := h2.1
        simp only [Option.bind_some, show ¬ ((l.length : Int) = ((0 : Nat) : Int)) by omega, decide_false, cond_false, show ¬ ((b : Int) < ((0 : Nat) : Int)) by omega, show ¬ ((l.length : Int) ≤ (b : Int)) by omega, Sum.elim_inr]
        rw [check_loop l (by omega) hs b h2 _ 0 (Nat.le_refl _)]
        rfl

end Go.Cellar
