/- What was fired: small enough. No condition. -/
import Derived.Test.YtjdjmbogopadaaaGreatDoorPl12k
set_option linter.unusedSimpArgs false
set_option linter.unusedVariables false
set_option maxRecDepth 8000
namespace Go.Cellar
open Go

/-- A loop with a sum, place by place: it ends. -/
theorem tot2 {T : Type} (B : Int × Int → Option ((Int × Int) ⊕ (Unit ⊕ T))) (n : Nat) (I : Nat → Nat → Prop) (Q : T → Prop)
    (hend : ∀ s k : Nat, I s k → n ≤ k → ∃ t, B ((s : Int), (k : Int)) = some (.inr (.inr t)) ∧ Q t)
    (hgo : ∀ s k : Nat, I s k → k < n → B ((s : Int), (k : Int)) = some (.inr (.inl ())) ∨ ∃ s' : Nat, I s' (k + 1) ∧ B ((s : Int), (k : Int)) = some (.inl ((s' : Int), ((k + 1 : Nat) : Int)))) :
    ∀ (j s k : Nat), n - k = j → I s k → ∃ x, iter B ((s : Int), (k : Int)) = some x ∧ ∀ t, x = .inr t → Q t := by
  intro j
  induction j with
  | zero =>
    intro s k h hI
    obtain ⟨t, h1, h2⟩ := hend s k hI (by omega)
    exact ⟨_, iter_inr h1, fun t' ht => by cases ht; exact h2⟩
  | succ j ih =>
    intro s k h hI
    rcases hgo s k hI (by omega) with h1 | ⟨s', h1, h2⟩
    · exact ⟨_, iter_inr h1, fun t' ht => by cases ht⟩
    · obtain ⟨x, h3, h4⟩ := ih s' (k + 1) (by omega) h1
      exact ⟨x, by rw [iter_inl h2]; exact h3, h4⟩

theorem min_cap (c n : Nat) : (if ((c : Nat) : Int) < (n : Int) then ((c : Nat) : Int) else (n : Int)) = ((min n c : Nat) : Int) := by
  by_cases h : c < n
  · rw [if_pos (by omega)]; omega
  · rw [if_neg (by omega)]; omega

def FactF (x : Fd) : Prop := x.1.length ≤ 300 ∧ x.2.length ≤ 70 ∧ ∀ p ∈ x.2, p.length ≤ 3000

theorem fewF_b0 (l : List Fd) (i : Nat) (hi : i < l.length) (W : List (List UInt8)) (hW : (l.getD i ([], [])).2 = W) (hlen : W.length ≤ 70) (s : Nat) (hs : s ≤ 3000) :
    ∃ x, iter (cellarerlaw12_FewFired_b0 l (i : Int)) ((s : Int), (0 : Int)) = some x ∧ ∀ t, x = .inr t → (∃ m : Nat, t = (m : Int) ∧ m ≤ 3000) ∧ ∀ j, j < W.length → (W.getD j []).length ≤ 3000 := by
  refine tot2 (cellarerlaw12_FewFired_b0 l (i : Int)) W.length (fun s k => s ≤ 3000 ∧ ∀ j, j < k → (W.getD j []).length ≤ 3000) (fun t => (∃ m : Nat, t = (m : Int) ∧ m ≤ 3000) ∧ ∀ j, j < W.length → (W.getD j []).length ≤ 3000) (fun s k hI hk => ⟨(s : Int), ?_, ⟨s, rfl, hI.1⟩, fun j hj => hI.2 j (by omega)⟩) (fun s k hI hk => ?_) W.length s 0 rfl ⟨hs, fun j hj => by omega⟩
  · unfold cellarerlaw12_FewFired_b0
    rw [if_pos (by omega)]
    simp only [Int.toNat_natCast, hW]
    rw [decide_eq_false (by omega)]
    rfl
  · obtain ⟨hI, hI2⟩ := hI
    have hm := min_cap 3000 (W.getD k []).length
    have hm' : (if (3000 : Int) < ((W.getD k []).length : Int) then (3000 : Int) else ((W.getD k []).length : Int)) = _ := hm
    have hb : cellarerlaw12_FewFired_b0 l (i : Int) ((s : Int), (k : Int)) = some (if 3000 < s + (1 + min (W.getD k []).length 3000) then .inr (.inl ()) else .inl (((s + (1 + min (W.getD k []).length 3000) : Nat) : Int), ((k + 1 : Nat) : Int))) := by
      unfold cellarerlaw12_FewFired_b0
      rw [if_pos (by omega), if_pos (by omega)]
      simp only [Int.toNat_natCast, hW]
      rw [decide_eq_true (by omega), if_pos (by omega), hm', w64 (n := (1 : Int) + ((min (W.getD k []).length 3000 : Nat) : Int)) (by omega) (by omega), w64 (n := (s : Int) + ((1 : Int) + ((min (W.getD k []).length 3000 : Nat) : Int))) (by omega) (by omega), kplus hk (by omega)]
      by_cases hq : 3000 < s + (1 + min (W.getD k []).length 3000)
      · rw [decide_eq_true (by omega), if_pos hq]; rfl
      · rw [decide_eq_false (by omega), if_neg hq]
        simp only [cond_true, cond_false]
        congr 3
    by_cases hq : 3000 < s + (1 + min (W.getD k []).length 3000)
    · rw [if_pos hq] at hb; exact .inl hb
    · rw [if_neg hq] at hb
      refine .inr ⟨_, ⟨by omega, fun j hj => ?_⟩, hb⟩
      by_cases hjk : j = k
      · subst hjk; omega
      · exact hI2 j (by omega)

theorem getD_mem {α : Type} {L : List α} {x : α} (d : α) (h : x ∈ L) : ∃ j, j < L.length ∧ L.getD j d = x := by
  obtain ⟨j, hj, rfl⟩ := List.getElem_of_mem h
  exact ⟨j, hj, by simp [List.getD_eq_getElem?_getD, hj]⟩

theorem fewF (l : List Fd) : ∃ b, cellarerlaw12_FewFired l = some b ∧ (b = true → l.length ≤ 70 ∧ ∀ x ∈ l, FactF x) := by
  unfold cellarerlaw12_FewFired
  by_cases h : 70 < l.length
  · rw [decide_eq_true (show (70 : Int) < (l.length : Int) by omega)]; exact ⟨false, rfl, fun h => by cases h⟩
  · rw [decide_eq_false (show ¬ (70 : Int) < (l.length : Int) by omega)]
    obtain ⟨x, h1, h2⟩ := tot2 (cellarerlaw12_FewFired_b1 l) l.length (fun s k => s ≤ 3000 ∧ ∀ j, j < k → FactF (l.getD j ([], []))) (fun _ => ∀ j, j < l.length → FactF (l.getD j ([], []))) (fun s k hI hk => ⟨(), by
      unfold cellarerlaw12_FewFired_b1
      simp [show ¬ k < l.length by omega], fun j hj => hI.2 j (by omega)⟩) (fun s k hI hk => by
      by_cases h300 : 300 < (l.getD k ([], [])).1.length
      · left
        unfold cellarerlaw12_FewFired_b1
        simp only [natlt, hk, decide_true, cond_true, Int.natCast_nonneg, true_and, if_true, Int.toNat_natCast]
        rw [decide_eq_true (show (300 : Int) < ((l.getD k ([], [])).1.length : Int) by omega)]
        rfl
      · by_cases h70 : 70 < (l.getD k ([], [])).2.length
        · left
          unfold cellarerlaw12_FewFired_b1
          simp only [natlt, hk, decide_true, cond_true, Int.natCast_nonneg, true_and, if_true, Int.toNat_natCast]
          rw [decide_eq_false (show ¬ (300 : Int) < ((l.getD k ([], [])).1.length : Int) by omega), decide_eq_true (show (70 : Int) < ((l.getD k ([], [])).2.length : Int) by omega)]
          rfl
        · obtain ⟨y, i1, i2⟩ := fewF_b0 l k hk _ rfl (by omega) s hI.1
          have hb : cellarerlaw12_FewFired_b1 l ((s : Int), (k : Int)) = (some y).bind (Sum.elim (fun _ => some (.inr (.inl ()))) (fun t => some (.inl (t, IntKind.wrap IntKind.i64 ((k : Int) + 1))))) := by
            unfold cellarerlaw12_FewFired_b1
            simp only [natlt, hk, decide_true, cond_true, Int.natCast_nonneg, true_and, if_true, Int.toNat_natCast]
            rw [decide_eq_false (show ¬ (300 : Int) < ((l.getD k ([], [])).1.length : Int) by omega), decide_eq_false (show ¬ (70 : Int) < ((l.getD k ([], [])).2.length : Int) by omega)]
            simp only [cond_false, Option.bind_some, Sum.elim_inr]
            rw [i1]
            rfl
          cases y with
          | inl u => left; rw [hb]; rfl
          | inr t =>
            obtain ⟨⟨m, rfl, hm⟩, hp⟩ := i2 t rfl
            refine .inr ⟨m, ⟨hm, fun j hj => ?_⟩, by rw [hb, kplus hk (by omega)]; rfl⟩
            by_cases hjk : j = k
            · subst hjk
              refine ⟨by omega, by omega, fun p hp' => ?_⟩
              obtain ⟨q, hq, rfl⟩ := getD_mem [] hp'
              exact hp q hq
            · exact hI.2 j (by omega)) l.length 0 0 rfl ⟨by omega, fun j hj => by omega⟩
    have h1' : iter (cellarerlaw12_FewFired_b1 l) ((0 : Int), (0 : Int)) = some x := h1
    simp only [cond_false]
    rw [h1']
    cases x with
    | inl u => exact ⟨false, rfl, fun h => by cases h⟩
    | inr u =>
      refine ⟨true, rfl, fun _ => ⟨by omega, fun x hx => ?_⟩⟩
      obtain ⟨j, hj, rfl⟩ := getD_mem ([], []) hx
      exact h2 u rfl j hj

end Go.Cellar
