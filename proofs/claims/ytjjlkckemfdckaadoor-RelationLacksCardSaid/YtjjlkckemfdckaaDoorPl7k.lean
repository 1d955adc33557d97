/- The laws of relations, as plain laws. No condition. -/
import Derived.Test.YtjjlkckemfdckaaDoorPl7h
set_option linter.unusedSimpArgs false
set_option linter.unusedVariables false
set_option maxRecDepth 4000
namespace Go.Cellar
open Go

/-! ### few -/

theorem min3 (n : Nat) : (if (3000 : Int) < (n : Int) then (3000 : Int) else (n : Int)) = ((min n 3000 : Nat) : Int) := by
  by_cases h : 3000 < n
  · rw [if_pos (by omega), Nat.min_eq_right (by omega)]; rfl
  · rw [if_neg (by omega), Nat.min_eq_left (by omega)]

def wR (x : Rl) : Nat := min x.1.length 3000 + min x.2.1.length 3000 + min x.2.2.length 3000 + 1

theorem few0_loop (l : List (List Rl)) (i : Nat) (hi : i < l.length) (hl : l.length ≤ 70) (hg : (l.getD i []).length ≤ 70) : ∀ (r : List Rl) (k n : Nat), (l.getD i []).drop k = r → n ≤ 3000 →
    ∃ x, iter (cellarerlaw07_few_b0 l (i : Int)) ((n : Int), (k : Int)) = some x ∧ (∀ v, x = .inr v → (∃ m : Nat, v = (m : Int) ∧ m ≤ 3000) ∧ ∀ y ∈ r, ShR 3000 y) := by
  obtain ⟨g, hgg⟩ : ∃ g, g = l.getD i [] := ⟨_, rfl⟩
  rw [← hgg] at hg ⊢
  intro r
  induction r with
  | nil =>
    intro k n h hn
    have hk := drop_nil h
    refine ⟨.inr (n : Int), iter_inr ?_, fun v hv => ?_⟩
    · unfold cellarerlaw07_few_b0
      simp only [natlt, hi, Int.natCast_nonneg, true_and, if_true, Int.toNat_natCast, ← hgg, show ¬ k < g.length by omega, decide_false, cond_false]
    · simp only [Sum.inr.injEq] at hv
      exact ⟨⟨n, hv.symm, hn⟩, by simp⟩
  | cons y r ih =>
    intro k n h hn
    obtain ⟨g1, g2, g3⟩ := drop_cons h ([], [], [])
    have hb : cellarerlaw07_few_b0 l (i : Int) ((n : Int), (k : Int)) = some (if 3000 < n + wR y then .inr (.inl ()) else .inl (((n + wR y : Nat) : Int), ((k + 1 : Nat) : Int))) := by
      unfold cellarerlaw07_few_b0 wR
      have w1 : min y.1.length 3000 ≤ 3000 := Nat.min_le_right _ _
      have w2 : min y.2.1.length 3000 ≤ 3000 := Nat.min_le_right _ _
      have w3 : min y.2.2.length 3000 ≤ 3000 := Nat.min_le_right _ _
      simp only [natlt, hi, g1, decide_true, cond_true, Int.natCast_nonneg, true_and, if_true, Int.toNat_natCast, ← hgg, g2, kplus g1 (by omega), min3]
      rw [w64 (n := ((min y.1.length 3000 : Nat) : Int) + ((min y.2.1.length 3000 : Nat) : Int)) (by omega) (by omega), w64 (n := ((min y.1.length 3000 : Nat) : Int) + ((min y.2.1.length 3000 : Nat) : Int) + ((min y.2.2.length 3000 : Nat) : Int)) (by omega) (by omega), w64 (n := ((min y.1.length 3000 : Nat) : Int) + ((min y.2.1.length 3000 : Nat) : Int) + ((min y.2.2.length 3000 : Nat) : Int) + 1) (by omega) (by omega), w64 (by omega) (by omega)]
      by_cases hq : 3000 < n + (min y.1.length 3000 + min y.2.1.length 3000 + min y.2.2.length 3000 + 1)
      · rw [if_pos hq, decide_eq_true (by omega)]; rfl
      · rw [if_neg hq, decide_eq_false (by omega)]
        simp only [cond_false]
        congr 3
    by_cases hq : 3000 < n + wR y
    · rw [if_pos hq] at hb
      exact ⟨.inl (), iter_inr hb, fun v hv => by cases hv⟩
    · rw [if_neg hq] at hb
      obtain ⟨x, h1, h2⟩ := ih (k + 1) (n + wR y) g3 (by omega)
      refine ⟨x, by rw [iter_inl hb]; exact h1, fun v hv => ?_⟩
      obtain ⟨q1, q2⟩ := h2 v hv
      refine ⟨q1, fun z hz => ?_⟩
      rcases List.mem_cons.mp hz with rfl | hz
      · unfold wR at hq
        refine ⟨?_, ?_, ?_⟩ <;> omega
      · exact q2 z hz

theorem few1_loop (l : List (List Rl)) (hl : l.length ≤ 70) : ∀ (r : List (List Rl)) (k n : Nat), l.drop k = r → n ≤ 3000 →
    ∃ x, iter (cellarerlaw07_few_b1 l) ((n : Int), (k : Int)) = some x ∧ (x = .inr () → ∀ g ∈ r, g.length ≤ 70 ∧ ∀ y ∈ g, ShR 3000 y) := by
  intro r
  induction r with
  | nil =>
    intro k n h hn
    have hk := drop_nil h
    refine ⟨.inr (), iter_inr ?_, fun _ => by simp⟩
    unfold cellarerlaw07_few_b1
    simp [show ¬ k < l.length by omega]
  | cons g r ih =>
    intro k n h hn
    obtain ⟨g1, g2, g3⟩ := drop_cons h []
    by_cases h70 : 70 < g.length
    · refine ⟨.inl (), iter_inr ?_, fun h => by cases h⟩
      unfold cellarerlaw07_few_b1
      simp only [natlt, g1, decide_true, cond_true, Int.natCast_nonneg, true_and, if_true, Int.toNat_natCast, g2, show (70 : Int) < (g.length : Int) by omega]
    · obtain ⟨x, h1, h2⟩ := few0_loop l k g1 hl (by rw [g2]; omega) _ 0 n rfl hn
      rw [g2] at h2
      have h1' : iter (cellarerlaw07_few_b0 l (k : Int)) ((n : Int), (0 : Int)) = some x := h1
      cases x with
      | inl u =>
        refine ⟨.inl (), iter_inr ?_, fun h => by cases h⟩
        unfold cellarerlaw07_few_b1
        simp only [natlt, g1, decide_true, cond_true, Int.natCast_nonneg, true_and, if_true, Int.toNat_natCast, g2, show ¬ (70 : Int) < (g.length : Int) by omega, decide_false, cond_false, h1', Option.bind_some, Sum.elim_inl]
      | inr v =>
        obtain ⟨⟨m, rfl, hm⟩, q2⟩ := h2 v rfl
        obtain ⟨y, i1, i2⟩ := ih (k + 1) m g3 hm
        refine ⟨y, ?_, fun hy => ?_⟩
        · rw [iter_inl (s' := ((m : Int), ((k + 1 : Nat) : Int)))]
          · exact i1
          · unfold cellarerlaw07_few_b1
            simp only [natlt, g1, decide_true, cond_true, Int.natCast_nonneg, true_and, if_true, Int.toNat_natCast, g2, show ¬ (70 : Int) < (g.length : Int) by omega, decide_false, cond_false, h1', Option.bind_some, Sum.elim_inr, kplus g1 (by omega)]
        · intro z hz
          rcases List.mem_cons.mp hz with rfl | hz
          · exact ⟨by omega, fun y hy => q2 y (by simpa using hy)⟩
          · exact i2 hy z hz

theorem few7 (l : List (List Rl)) : ∃ b, cellarerlaw07_few l = some b ∧ (b = true → l.length ≤ 70 ∧ ∀ g ∈ l, g.length ≤ 70 ∧ ∀ y ∈ g, ShR 3000 y) := by
  unfold cellarerlaw07_few
  by_cases h : l.length ≤ 70
  · obtain ⟨x, h1, h2⟩ := few1_loop l h l 0 0 rfl (by omega)
    have h1' : iter (cellarerlaw07_few_b1 l) ((0 : Int), (0 : Int)) = some x := h1
    simp only [show ¬ (70 : Int) < (l.length : Int) by omega, decide_false, cond_false, h1', Option.bind_some]
    cases x with
    | inl u => exact ⟨false, rfl, fun h => by cases h⟩
    | inr u => exact ⟨true, rfl, fun _ => ⟨h, h2 rfl⟩⟩
  · simp only [show (70 : Int) < (l.length : Int) by omega, decide_true, cond_true]
    exact ⟨false, rfl, fun h => by cases h⟩

/-! ### are two the same -/

theorem rlEq (x y : Rl) : (Decidable.decide (x.1 = y.1) && (Decidable.decide (x.2.1 = y.2.1) && Decidable.decide (x.2.2 = y.2.2))) = decide (x = y) := by
  obtain ⟨a, b, c⟩ := x
  obtain ⟨a', b', c'⟩ := y
  by_cases h1 : a = a' <;> by_cases h2 : b = b' <;> by_cases h3 : c = c' <;> simp [h1, h2, h3]

/-- A loop that compares place by place. -/
theorem same_loop {α : Type} [DecidableEq α] (B : Int → Option (Int ⊕ (Unit ⊕ Unit))) (a b : List α) (d : α) (hab : a.length = b.length)
    (hend : ∀ k : Nat, a.length ≤ k → B (k : Int) = some (.inr (.inr ())))
    (hgo : ∀ (k : Nat) (x : α) (r : List α), a.drop k = x :: r → k < b.length → B (k : Int) = some (if x = b.getD k d then .inl ((k + 1 : Nat) : Int) else .inr (.inl ()))) :
    iter B (0 : Int) = some (if a = b then .inr () else .inl ()) := by
  have key : ∀ (r : List α) (k : Nat), a.drop k = r → iter B (k : Int) = some (if r = b.drop k then .inr () else .inl ()) := by
    intro r
    induction r with
    | nil =>
      intro k h
      have := drop_nil h
      have hb : b.drop k = [] := List.drop_eq_nil_of_le (by omega)
      rw [iter_inr (hend k this), hb]
      simp
    | cons x r ih =>
      intro k h
      obtain ⟨g1, g2, g3⟩ := drop_cons h d
      have hkb : k < b.length := by omega
      have hb : b.drop k = b.getD k d :: b.drop (k + 1) := by
        rw [List.drop_eq_getElem_cons hkb, List.getD_eq_getElem?_getD, List.getElem?_eq_getElem hkb]; rfl
      have hbody := hgo k x r h hkb
      by_cases hx : x = b.getD k d
      · rw [if_pos hx] at hbody
        rw [iter_inl hbody, ih (k + 1) g3, hb, ← hx]
        simp
      · rw [if_neg hx] at hbody
        rw [iter_inr hbody, hb, if_neg (fun e => hx (by simp only [List.cons.injEq] at e; exact e.1))]
  have := key a 0 rfl
  simpa using this

theorem sameList_eq (a b : List Rl) (ha : a.length < 1000002) : cellarerref07_SameList a b = some (decide (a = b)) := by
  unfold cellarerref07_SameList
  by_cases h : a.length = b.length
  · have hd : decide ((a.length : Int) = (b.length : Int)) = true := decide_eq_true (by omega)
    have hl := same_loop (cellarerref07_SameList_b0 a b) a b ([], [], []) h (fun k hk => by
      unfold cellarerref07_SameList_b0
      simp [show ¬ k < a.length by omega]) (fun k x r hh hkb => by
      obtain ⟨g1, g2, g3⟩ := drop_cons hh ([], [], [])
      unfold cellarerref07_SameList_b0
      simp only [natlt, g1, hkb, decide_true, cond_true, Int.natCast_nonneg, true_and, and_self, if_true, Int.toNat_natCast, g2, kplus g1 (by omega), rlEq]
      by_cases hx : x = b.getD k ([], [], [])
      · rw [if_pos hx, decide_eq_true hx]; rfl
      · rw [if_neg hx, decide_eq_false hx]; rfl)
    simp only [hd, Bool.not_true, cond_false, hl]
    by_cases hab : a = b <;> simp [hab]
  · have hd : decide ((a.length : Int) = (b.length : Int)) = false := decide_eq_false (by omega)
    have hab : a ≠ b := fun e => h (by rw [e])
    simp [hd, hab]

theorem same7_eq (a b : List (List Rl)) (ha : a.length < 1000002) (hg : ∀ g ∈ a, g.length < 1000002) : cellarerref07_Same a b = some (decide (a = b)) := by
  unfold cellarerref07_Same
  by_cases h : a.length = b.length
  · have hd : decide ((a.length : Int) = (b.length : Int)) = true := decide_eq_true (by omega)
    have hl := same_loop (cellarerref07_Same_b0 a b) a b [] h (fun k hk => by
      unfold cellarerref07_Same_b0
      simp [show ¬ k < a.length by omega]) (fun k x r hh hkb => by
      obtain ⟨g1, g2, g3⟩ := drop_cons hh []
      have hx := hg x (List.mem_of_mem_drop (by rw [hh]; simp))
      unfold cellarerref07_Same_b0
      simp only [natlt, g1, hkb, decide_true, cond_true, Int.natCast_nonneg, true_and, and_self, if_true, Int.toNat_natCast, g2, kplus g1 (by omega), sameList_eq x _ hx, Option.bind_some]
      by_cases hx : x = b.getD k []
      · rw [if_pos hx, decide_eq_true hx]; rfl
      · rw [if_neg hx, decide_eq_false hx]; rfl)
    simp only [hd, Bool.not_true, cond_false, hl]
    by_cases hab : a = b <;> simp [hab]
  · have hd : decide ((a.length : Int) = (b.length : Int)) = false := decide_eq_false (by omega)
    have hab : a ≠ b := fun e => h (by rw [e])
    simp [hd, hab]

theorem is_eq (e : Int) (b : Bool) : cellarerlaw07_is e b = some (if b = true then decide (e = 0) else decide (e = 2)) := by
  unfold cellarerlaw07_is
  cases b <;> rfl

theorem sh_mono {n m : Nat} (h : n ≤ m) {x : Rl} (hx : ShR n x) : ShR m x := ⟨Nat.le_trans hx.1 h, Nat.le_trans hx.2.1 h, Nat.le_trans hx.2.2 h⟩

end Go.Cellar
