/- Small enough: each test answers. No condition. -/
import Derived.Test.YtapfjjbgcfnnmaaDoorPl20p
set_option linter.unusedSimpArgs false
set_option linter.unusedVariables false
set_option maxRecDepth 8000
set_option synthInstance.maxHeartbeats 2000000
set_option synthInstance.maxSize 100000
namespace Go.Cellar
open Go

theorem allFrom_const {α : Type} (p : α → Bool) (r : List α) (k : Nat) : allFrom (fun _ => p) k r = r.all p := allFrom_all p r k

/-- A loop with a sum, place by place: it ends. -/
theorem tot2 {T : Type} (B : Int × Int → Option ((Int × Int) ⊕ (Unit ⊕ T))) (n : Nat) (I : Nat → Nat → Prop) (Q : T → Prop)
    (hend : ∀ s k : Nat, I s k → n ≤ k → ∃ t, B ((s : Int), (k : Int)) = some (.inr (.inr t)) ∧ Q t)
    (hgo : ∀ s k : Nat, I s k → k < n → B ((s : Int), (k : Int)) = some (.inr (.inl ())) ∨ ∃ s' : Nat, I s' (k + 1) ∧ B ((s : Int), (k : Int)) = some (.inl ((s' : Int), ((k + 1 : Nat) : Int)))) :
    ∀ (j s k : Nat), n - k = j → I s k → ∃ x, iter B ((s : Int), (k : Int)) = some x ∧ ∀ t, x = .inr t → Q t := by
  intro j
  induction j with
  | zero =>
    intro s k h hI
    obtain ⟨t, h1, h2⟩ := hend s k hI (by omega)
    exact ⟨_, iter_inr h1, fun t' ht => by cases ht; exact h2⟩
  | succ j ih =>
    intro s k h hI
    rcases hgo s k hI (by omega) with h1 | ⟨s', h1, h2⟩
    · exact ⟨_, iter_inr h1, fun t' ht => by cases ht⟩
    · obtain ⟨x, h3, h4⟩ := ih s' (k + 1) (by omega) h1
      exact ⟨x, by rw [iter_inl h2]; exact h3, h4⟩

theorem min_cap (c n : Nat) : (if ((c : Nat) : Int) < (n : Int) then ((c : Nat) : Int) else (n : Int)) = ((min n c : Nat) : Int) := by
  by_cases h : c < n
  · rw [if_pos (by omega)]; omega
  · rw [if_neg (by omega)]; omega

theorem few9 (l : List (List UInt8 × List UInt8 × List UInt8)) : ∃ b, cellarerlaw09_Few l = some b := by
  unfold cellarerlaw09_Few
  by_cases h : 70 < l.length
  · rw [decide_eq_true (show (70 : Int) < (l.length : Int) by omega)]; exact ⟨false, rfl⟩
  · rw [decide_eq_false (show ¬ (70 : Int) < (l.length : Int) by omega)]
    have := all_loop (cellarerlaw09_Few_b0 l) (fun _ x => decide (x.1.length ≤ 300) && (decide (x.2.1.length ≤ 300) && decide (x.2.2.length ≤ 300))) l (fun k hk => by
      unfold cellarerlaw09_Few_b0
      simp [show ¬ k < l.length by omega]) (fun k x r hd => by
      obtain ⟨g1, g2, g3⟩ := drop_cons hd ([], [], [])
      unfold cellarerlaw09_Few_b0
      simp only [natlt, g1, decide_true, cond_true, Int.natCast_nonneg, true_and, if_true, Int.toNat_natCast, g2, kplus g1 (by omega)]
      by_cases h1 : x.1.length ≤ 300
      · rw [decide_eq_false (show ¬ (300 : Int) < (x.1.length : Int) by omega), decide_eq_true h1]
        by_cases h2 : x.2.1.length ≤ 300
        · rw [decide_eq_false (show ¬ (300 : Int) < (x.2.1.length : Int) by omega), decide_eq_true h2]
          by_cases h3 : x.2.2.length ≤ 300
          · rw [decide_eq_false (show ¬ (300 : Int) < (x.2.2.length : Int) by omega), decide_eq_true h3]; rfl
          · rw [decide_eq_true (show (300 : Int) < (x.2.2.length : Int) by omega), decide_eq_false h3]; rfl
        · rw [decide_eq_true (show (300 : Int) < (x.2.1.length : Int) by omega), decide_eq_false h2]; rfl
      · rw [decide_eq_true (show (300 : Int) < (x.1.length : Int) by omega), decide_eq_false h1]; rfl) l 0 rfl
    have h2 : iter (cellarerlaw09_Few_b0 l) (0 : Int) = _ := this
    simp only [cond_false]
    rw [h2]
    cases allFrom (fun _ x => decide (x.1.length ≤ 300) && (decide (x.2.1.length ≤ 300) && decide (x.2.2.length ≤ 300))) 0 l
    · exact ⟨false, rfl⟩
    · exact ⟨true, rfl⟩

theorem few12 (l : List (List UInt8 × List UInt8 × Bool)) : ∃ b, cellarerlaw12_Few l = some b := by
  unfold cellarerlaw12_Few
  by_cases h : 70 < l.length
  · rw [decide_eq_true (show (70 : Int) < (l.length : Int) by omega)]; exact ⟨false, rfl⟩
  · rw [decide_eq_false (show ¬ (70 : Int) < (l.length : Int) by omega)]
    have := all_loop (cellarerlaw12_Few_b0 l) (fun _ x => decide (x.1.length ≤ 300) && decide (x.2.1.length ≤ 300)) l (fun k hk => by
      unfold cellarerlaw12_Few_b0
      simp [show ¬ k < l.length by omega]) (fun k x r hd => by
      obtain ⟨g1, g2, g3⟩ := drop_cons hd ([], [], false)
      unfold cellarerlaw12_Few_b0
      simp only [natlt, g1, decide_true, cond_true, Int.natCast_nonneg, true_and, if_true, Int.toNat_natCast, g2, kplus g1 (by omega)]
      by_cases h1 : x.1.length ≤ 300
      · rw [decide_eq_false (show ¬ (300 : Int) < (x.1.length : Int) by omega), decide_eq_true h1]
        by_cases h2 : x.2.1.length ≤ 300
        · rw [decide_eq_false (show ¬ (300 : Int) < (x.2.1.length : Int) by omega), decide_eq_true h2]; rfl
        · rw [decide_eq_true (show (300 : Int) < (x.2.1.length : Int) by omega), decide_eq_false h2]; rfl
      · rw [decide_eq_true (show (300 : Int) < (x.1.length : Int) by omega), decide_eq_false h1]; rfl) l 0 rfl
    have h2 : iter (cellarerlaw12_Few_b0 l) (0 : Int) = _ := this
    simp only [cond_false]
    rw [h2]
    cases allFrom (fun _ x => decide (x.1.length ≤ 300) && decide (x.2.1.length ≤ 300)) 0 l
    · exact ⟨false, rfl⟩
    · exact ⟨true, rfl⟩

theorem few13_b0 (l : List (List UInt8 × List (List UInt8))) (i : Nat) (hi : i < l.length) (W : List (List UInt8)) (hW : (l.getD i ([], [])).2 = W) (hlen : W.length ≤ 70) (s : Nat) (hs : s ≤ 4000) :
    ∃ x, iter (cellarerlaw13_Few_b0 l (i : Int)) ((s : Int), (0 : Int)) = some x ∧ ∀ t, x = .inr t → ∃ m : Nat, t = (m : Int) ∧ m ≤ 4000 := by
  refine tot2 (cellarerlaw13_Few_b0 l (i : Int)) W.length (fun s _ => s ≤ 4000) (fun t => ∃ m : Nat, t = (m : Int) ∧ m ≤ 4000) (fun s k hI hk => ⟨(s : Int), ?_, s, rfl, hI⟩) (fun s k hI hk => ?_) W.length s 0 rfl hs
  · unfold cellarerlaw13_Few_b0
    rw [if_pos (by omega)]
    simp only [Int.toNat_natCast, hW]
    rw [decide_eq_false (by omega)]
    rfl
  · have hm := min_cap 4000 (W.getD k []).length
    have hm' : (if (4000 : Int) < ((W.getD k []).length : Int) then (4000 : Int) else ((W.getD k []).length : Int)) = _ := hm
    have hb : cellarerlaw13_Few_b0 l (i : Int) ((s : Int), (k : Int)) = some (if 4000 < s + (1 + min (W.getD k []).length 4000) then .inr (.inl ()) else .inl (((s + (1 + min (W.getD k []).length 4000) : Nat) : Int), ((k + 1 : Nat) : Int))) := by
      unfold cellarerlaw13_Few_b0
      rw [if_pos (by omega), if_pos (by omega)]
      simp only [Int.toNat_natCast, hW]
      rw [decide_eq_true (by omega), if_pos (by omega), hm', w64 (n := (1 : Int) + ((min (W.getD k []).length 4000 : Nat) : Int)) (by omega) (by omega), w64 (n := (s : Int) + ((1 : Int) + ((min (W.getD k []).length 4000 : Nat) : Int))) (by omega) (by omega), kplus hk (by omega)]
      by_cases hq : 4000 < s + (1 + min (W.getD k []).length 4000)
      · rw [decide_eq_true (by omega), if_pos hq]; rfl
      · rw [decide_eq_false (by omega), if_neg hq]
        simp only [cond_true, cond_false]
        congr 3
    by_cases hq : 4000 < s + (1 + min (W.getD k []).length 4000)
    · rw [if_pos hq] at hb; exact .inl hb
    · rw [if_neg hq] at hb; exact .inr ⟨_, by omega, hb⟩

theorem few13 (l : List (List UInt8 × List (List UInt8))) : ∃ b, cellarerlaw13_Few l = some b := by
  unfold cellarerlaw13_Few
  by_cases h : 70 < l.length
  · rw [decide_eq_true (show (70 : Int) < (l.length : Int) by omega)]; exact ⟨false, rfl⟩
  · rw [decide_eq_false (show ¬ (70 : Int) < (l.length : Int) by omega)]
    obtain ⟨x, h1, _⟩ := tot2 (cellarerlaw13_Few_b1 l) l.length (fun s _ => s ≤ 4000) (fun _ => True) (fun s k hI hk => ⟨(), by
      unfold cellarerlaw13_Few_b1
      simp [show ¬ k < l.length by omega], trivial⟩) (fun s k hI hk => by
      by_cases h300 : 300 < (l.getD k ([], [])).1.length
      · left
        unfold cellarerlaw13_Few_b1
        simp only [natlt, hk, decide_true, cond_true, Int.natCast_nonneg, true_and, if_true, Int.toNat_natCast]
        rw [decide_eq_true (show (300 : Int) < ((l.getD k ([], [])).1.length : Int) by omega)]
        rfl
      · by_cases h70 : 70 < (l.getD k ([], [])).2.length
        · left
          unfold cellarerlaw13_Few_b1
          simp only [natlt, hk, decide_true, cond_true, Int.natCast_nonneg, true_and, if_true, Int.toNat_natCast]
          rw [decide_eq_false (show ¬ (300 : Int) < ((l.getD k ([], [])).1.length : Int) by omega), decide_eq_true (show (70 : Int) < ((l.getD k ([], [])).2.length : Int) by omega)]
          rfl
        · obtain ⟨y, i1, i2⟩ := few13_b0 l k hk _ rfl (by omega) s hI
          have hb : cellarerlaw13_Few_b1 l ((s : Int), (k : Int)) = (some y).bind (Sum.elim (fun _ => some (.inr (.inl ()))) (fun t => some (.inl (t, IntKind.wrap IntKind.i64 ((k : Int) + 1))))) := by
            unfold cellarerlaw13_Few_b1
            simp only [natlt, hk, decide_true, cond_true, Int.natCast_nonneg, true_and, if_true, Int.toNat_natCast]
            rw [decide_eq_false (show ¬ (300 : Int) < ((l.getD k ([], [])).1.length : Int) by omega), decide_eq_false (show ¬ (70 : Int) < ((l.getD k ([], [])).2.length : Int) by omega)]
            simp only [cond_false, Option.bind_some, Sum.elim_inr]
            rw [i1]
            rfl
          cases y with
          | inl u => left; rw [hb]; rfl
          | inr t =>
            obtain ⟨m, rfl, hm⟩ := i2 t rfl
            exact .inr ⟨m, hm, by rw [hb, kplus hk (by omega)]; rfl⟩) l.length 0 0 rfl (by omega)
    have h1' : iter (cellarerlaw13_Few_b1 l) ((0 : Int), (0 : Int)) = some x := h1
    simp only [cond_false]
    rw [h1']
    cases x with
    | inl u => exact ⟨false, rfl⟩
    | inr u => exact ⟨true, rfl⟩

/-! ### few -/

abbrev En : Type := List UInt8 × List UInt8 × Bool × List UInt8 × List (List UInt8 × List UInt8) × List (List UInt8 × Int × List (List UInt8))

theorem few_b0 (l : List (List UInt8 × List UInt8)) (hl : l.length ≤ 70) : iter (cellarerlaw11_Few_b0 l) (0 : Int) = some (if l.all (fun x => decide (x.1.length ≤ 300) && decide (x.2.length ≤ 300)) = true then .inr () else .inl ()) := by
  have := all_loop (cellarerlaw11_Few_b0 l) (fun _ x => decide (x.1.length ≤ 300) && decide (x.2.length ≤ 300)) l (fun k hk => by
    unfold cellarerlaw11_Few_b0
    simp [show ¬ k < l.length by omega]) (fun k x r h => by
    obtain ⟨g1, g2, g3⟩ := drop_cons h ([], [])
    unfold cellarerlaw11_Few_b0
    simp only [natlt, g1, decide_true, cond_true, Int.natCast_nonneg, true_and, if_true, Int.toNat_natCast, g2, kplus g1 (by omega)]
    by_cases h1 : 300 < x.1.length
    · rw [decide_eq_true (show (300 : Int) < (x.1.length : Int) by omega), decide_eq_false (show ¬ x.1.length ≤ 300 by omega)]; rfl
    · rw [decide_eq_false (show ¬ (300 : Int) < (x.1.length : Int) by omega), decide_eq_true (show x.1.length ≤ 300 by omega)]
      by_cases h2 : 300 < x.2.length
      · rw [decide_eq_true (show (300 : Int) < (x.2.length : Int) by omega), decide_eq_false (show ¬ x.2.length ≤ 300 by omega)]; rfl
      · rw [decide_eq_false (show ¬ (300 : Int) < (x.2.length : Int) by omega), decide_eq_true (show x.2.length ≤ 300 by omega)]; rfl) l 0 rfl
  rw [allFrom_const] at this
  exact this

theorem few_b1 (o : List (List UInt8 × Int × List (List UInt8))) (k : Nat) (hk : k < o.length) (W : List (List UInt8)) (hW : (o.getD k ([], (0 : Int), [])).2.2 = W) (hlen : W.length ≤ 70) :
    ∀ (r : List (List UInt8)) (j n : Nat), W.drop j = r → n ≤ 3000 → ∃ x, iter (cellarerlaw11_Few_b1 (k : Int) o) ((n : Int), (j : Int)) = some x ∧ ∀ v, x = .inr v → (∃ m : Nat, v = (m : Int) ∧ m ≤ 3000) ∧ ∀ y ∈ r, y.length ≤ 3000 := by
  intro r
  induction r with
  | nil =>
    intro j n h hn
    have hj := drop_nil h
    refine ⟨.inr (n : Int), iter_inr ?_, fun v hv => ⟨⟨n, by cases hv; rfl, hn⟩, by simp⟩⟩
    unfold cellarerlaw11_Few_b1
    rw [if_pos (by omega)]
    simp only [Int.toNat_natCast, hW]
    rw [decide_eq_false (by omega)]
    rfl
  | cons y r ih =>
    intro j n h hn
    obtain ⟨g1, g2, g3⟩ := drop_cons h []
    have hm : (if (3000 : Int) < (y.length : Int) then (3000 : Int) else (y.length : Int)) = ((min y.length 3000 : Nat) : Int) := by
      by_cases h : 3000 < y.length
      · rw [if_pos (by omega)]; omega
      · rw [if_neg (by omega)]; omega
    have hb : cellarerlaw11_Few_b1 (k : Int) o ((n : Int), (j : Int)) = some (if 3000 < n + (1 + min y.length 3000) then .inr (.inl ()) else .inl (((n + (1 + min y.length 3000) : Nat) : Int), ((j + 1 : Nat) : Int))) := by
      unfold cellarerlaw11_Few_b1
      rw [if_pos (by omega), if_pos (by omega)]
      simp only [Int.toNat_natCast, hW]
      rw [decide_eq_true (by omega), if_pos (by omega), g2, hm, w64 (n := (1 : Int) + ((min y.length 3000 : Nat) : Int)) (by omega) (by omega), w64 (n := (n : Int) + ((1 : Int) + ((min y.length 3000 : Nat) : Int))) (by omega) (by omega), kplus g1 (by omega)]
      by_cases hq : 3000 < n + (1 + min y.length 3000)
      · rw [decide_eq_true (by omega), if_pos hq]; rfl
      · rw [decide_eq_false (by omega), if_neg hq]
        simp only [cond_true, cond_false]
        congr 3
    by_cases hq : 3000 < n + (1 + min y.length 3000)
    · rw [if_pos hq] at hb
      exact ⟨.inl (), iter_inr hb, fun v hv => by cases hv⟩
    · rw [if_neg hq] at hb
      obtain ⟨x, h1, h2⟩ := ih (j + 1) (n + (1 + min y.length 3000)) g3 (by omega)
      refine ⟨x, by rw [iter_inl hb]; exact h1, fun v hv => ?_⟩
      obtain ⟨q1, q2⟩ := h2 v hv
      refine ⟨q1, fun z hz => ?_⟩
      rcases List.mem_cons.mp hz with rfl | hz
      · omega
      · exact q2 z hz

theorem few_b2 (W : List (List UInt8)) : ∃ x, iter (cellarerlaw11_Few_b2 [([], (0 : Int), W)]) ((0 : Int), (0 : Int)) = some x ∧ ∀ v, x = .inr v → (∃ m : Nat, v = (m : Int) ∧ m ≤ 3000) ∧ W.length ≤ 70 ∧ ∀ y ∈ W, y.length ≤ 3000 := by
  by_cases h70 : 70 < W.length
  · refine ⟨.inl (), iter_inr ?_, fun v hv => by cases hv⟩
    unfold cellarerlaw11_Few_b2
    simp [show (70 : Int) < (W.length : Int) by omega]
  · obtain ⟨x, h1, h2⟩ := few_b1 [([], (0 : Int), W)] 0 (by simp) W rfl (by omega) W 0 0 rfl (by omega)
    have h1' : iter (cellarerlaw11_Few_b1 (0 : Int) [([], (0 : Int), W)]) ((0 : Int), (0 : Int)) = some x := h1
    cases x with
    | inl u =>
      refine ⟨.inl (), iter_inr ?_, fun v hv => by cases hv⟩
      unfold cellarerlaw11_Few_b2
      simp [show ¬ (70 : Int) < (W.length : Int) by omega, h1']
    | inr v =>
      obtain ⟨⟨m, rfl, hm⟩, hy⟩ := h2 v rfl
      refine ⟨.inr (m : Int), ?_, fun v hv => ⟨⟨m, by cases hv; rfl, hm⟩, by omega, hy⟩⟩
      rw [iter_inl (s' := ((m : Int), (1 : Int)))]
      · exact iter_inr (by unfold cellarerlaw11_Few_b2; rfl)
      · unfold cellarerlaw11_Few_b2
        simp [show ¬ (70 : Int) < (W.length : Int) by omega, h1']
        rfl

theorem few11 (a b c : List UInt8) (P : List (List UInt8 × List UInt8)) (W : List (List UInt8)) :
    ∃ v, cellarerlaw11_Few [(a, b, false, c, P, [([], (0 : Int), W)])] = some v ∧ (v = true → a.length ≤ 300 ∧ b.length ≤ 300 ∧ c.length ≤ 300 ∧ P.length ≤ 70 ∧ (∀ x ∈ P, x.1.length ≤ 300 ∧ x.2.length ≤ 300) ∧ W.length ≤ 70 ∧ ∀ y ∈ W, y.length ≤ 3000) := by
  have hB : ∃ x, iter (cellarerlaw11_Few_b3 [(a, b, false, c, P, [([], (0 : Int), W)])]) ((0 : Int), (0 : Int)) = some x ∧ (x = .inr () → a.length ≤ 300 ∧ b.length ≤ 300 ∧ c.length ≤ 300 ∧ P.length ≤ 70 ∧ (∀ x ∈ P, x.1.length ≤ 300 ∧ x.2.length ≤ 300) ∧ W.length ≤ 70 ∧ ∀ y ∈ W, y.length ≤ 3000) := by
    by_cases h1 : 300 < a.length
    · refine ⟨.inl (), iter_inr ?_, fun h => by cases h⟩
      unfold cellarerlaw11_Few_b3
      simp [show (300 : Int) < (a.length : Int) by omega]
    by_cases h2 : 300 < b.length
    · refine ⟨.inl (), iter_inr ?_, fun h => by cases h⟩
      unfold cellarerlaw11_Few_b3
      simp [show ¬ (300 : Int) < (a.length : Int) by omega, show (300 : Int) < (b.length : Int) by omega]
    by_cases h3 : 300 < c.length
    · refine ⟨.inl (), iter_inr ?_, fun h => by cases h⟩
      unfold cellarerlaw11_Few_b3
      simp [show ¬ (300 : Int) < (a.length : Int) by omega, show ¬ (300 : Int) < (b.length : Int) by omega, show (300 : Int) < (c.length : Int) by omega]
    by_cases h4 : 70 < P.length
    · refine ⟨.inl (), iter_inr ?_, fun h => by cases h⟩
      unfold cellarerlaw11_Few_b3
      simp [show ¬ (300 : Int) < (a.length : Int) by omega, show ¬ (300 : Int) < (b.length : Int) by omega, show ¬ (300 : Int) < (c.length : Int) by omega, show (70 : Int) < (P.length : Int) by omega]
    have hb0 := few_b0 P (by omega)
    by_cases h5 : P.all (fun x => decide (x.1.length ≤ 300) && decide (x.2.length ≤ 300)) = true
    · rw [if_pos h5] at hb0
      obtain ⟨x, i1, i2⟩ := few_b2 W
      cases x with
      | inl u =>
        refine ⟨.inl (), iter_inr ?_, fun h => by cases h⟩
        unfold cellarerlaw11_Few_b3
        simp [show ¬ (300 : Int) < (a.length : Int) by omega, show ¬ (300 : Int) < (b.length : Int) by omega, show ¬ (300 : Int) < (c.length : Int) by omega, show ¬ (70 : Int) < (P.length : Int) by omega, hb0, i1]
      | inr v =>
        obtain ⟨⟨m, rfl, hm⟩, hw, hy⟩ := i2 v rfl
        by_cases hq : 3000 < m + (P.length + 1)
        · refine ⟨.inl (), iter_inr ?_, fun h => by cases h⟩
          unfold cellarerlaw11_Few_b3
          simp [show ¬ (300 : Int) < (a.length : Int) by omega, show ¬ (300 : Int) < (b.length : Int) by omega, show ¬ (300 : Int) < (c.length : Int) by omega, show ¬ (70 : Int) < (P.length : Int) by omega, hb0, i1]
          rw [w64 (n := (P.length : Int) + 1) (by omega) (by omega), w64 (by omega) (by omega), decide_eq_true (by omega)]
          rfl
        · refine ⟨.inr (), ?_, fun _ => ⟨by omega, by omega, by omega, by omega, fun x hx => ?_, hw, hy⟩⟩
          · rw [iter_inl (s' := (((m + (P.length + 1) : Nat) : Int), (1 : Int)))]
            · exact iter_inr (by unfold cellarerlaw11_Few_b3; rfl)
            · unfold cellarerlaw11_Few_b3
              simp [show ¬ (300 : Int) < (a.length : Int) by omega, show ¬ (300 : Int) < (b.length : Int) by omega, show ¬ (300 : Int) < (c.length : Int) by omega, show ¬ (70 : Int) < (P.length : Int) by omega, hb0, i1]
              rw [w64 (n := (P.length : Int) + 1) (by omega) (by omega), w64 (n := (m : Int) + ((P.length : Int) + 1)) (by omega) (by omega), decide_eq_false (by omega)]
              rfl
          · have := List.all_eq_true.mp h5 x hx
            simpa using this
    · rw [if_neg h5] at hb0
      refine ⟨.inl (), iter_inr ?_, fun h => by cases h⟩
      unfold cellarerlaw11_Few_b3
      simp [show ¬ (300 : Int) < (a.length : Int) by omega, show ¬ (300 : Int) < (b.length : Int) by omega, show ¬ (300 : Int) < (c.length : Int) by omega, show ¬ (70 : Int) < (P.length : Int) by omega, hb0]
  obtain ⟨x, i1, i2⟩ := hB
  unfold cellarerlaw11_Few
  simp only [show decide ((70 : Int) < (([(a, b, false, c, P, [([], (0 : Int), W)])] : List En).length : Int)) = false from rfl, cond_false, i1, Option.bind_some]
  cases x with
  | inl u => exact ⟨false, rfl, fun h => by cases h⟩
  | inr u => exact ⟨true, rfl, fun _ => i2 rfl⟩

end Go.Cellar
