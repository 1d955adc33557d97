/- Groups of any relations, as a text: it is always answered. No condition. -/
import Derived.Test.YtapfjjbgcfnnmaaDoorPl20r
set_option linter.unusedSimpArgs false
set_option linter.unusedVariables false
set_option maxRecDepth 8000
namespace Go.Cellar
open Go

theorem totG {X S T : Type} (σ : X → Nat → S) (B : S → Option (S ⊕ (Unit ⊕ T))) (n : Nat) (I : X → Nat → Prop) (Q : T → Prop)
    (hend : ∀ (x : X) (k : Nat), I x k → n ≤ k → ∃ t, B (σ x k) = some (.inr (.inr t)) ∧ Q t)
    (hgo : ∀ (x : X) (k : Nat), I x k → k < n → B (σ x k) = some (.inr (.inl ())) ∨ ∃ x', I x' (k + 1) ∧ B (σ x k) = some (.inl (σ x' (k + 1)))) :
    ∀ (j : Nat) (x : X) (k : Nat), n - k = j → I x k → ∃ y, iter B (σ x k) = some y ∧ ∀ t, y = .inr t → Q t := by
  intro j
  induction j with
  | zero =>
    intro x k h hI
    obtain ⟨t, h1, h2⟩ := hend x k hI (by omega)
    exact ⟨_, iter_inr h1, fun t' ht => by cases ht; exact h2⟩
  | succ j ih =>
    intro x k h hI
    rcases hgo x k hI (by omega) with h1 | ⟨x', h1, h2⟩
    · exact ⟨_, iter_inr h1, fun t' ht => by cases ht⟩
    · obtain ⟨y, h3, h4⟩ := ih x' (k + 1) (by omega) h1
      exact ⟨y, by rw [iter_inl h2]; exact h3, h4⟩

/-- A relation that Go's memory may hold. -/
def FitR (x : Rl) : Prop := x.1.length ≤ 9223372036854775807 ∧ x.2.1.length ≤ 9223372036854775807 ∧ x.2.2.length ≤ 9223372036854775807

theorem right_any (x : Rl) (h : FitR x) : ∃ b, cellarerref07_Right x.1 x.2.1 x.2.2 = some b ∧ (b = true → x.1.length + x.2.1.length + x.2.2.length ≤ 200) := by
  obtain ⟨n, o, v⟩ := x
  obtain ⟨h1, h2, h3⟩ := h
  simp only at h1 h2 h3 ⊢
  by_cases hv : v.length ≤ 80
  · refine ⟨_, refRelRight_eq n o v h1 (by omega), fun hr => ?_⟩
    unfold rightR nameV at hr
    simp only [Bool.and_eq_true, decide_eq_true_eq] at hr
    have hn := hr.1.1.2
    by_cases ho : o = []
    · subst ho
      simp only [List.length_nil]
      omega
    · have hr2 := hr.2
      rw [if_neg ho] at hr2
      simp only [Bool.and_eq_true, decide_eq_true_eq] at hr2
      have : o.length ≤ 2 := by
        have := hr2.1
        simp only [ops7, List.mem_cons, List.not_mem_nil, or_false] at this
        rcases this with rfl | rfl | rfl | rfl | rfl <;> decide
      omega
  · refine ⟨false, ?_, fun h => by cases h⟩
    unfold cellarerref07_Right cellarerref05_Parse
    rw [refName_eq n h1, decide_eq_true (show (80 : Int) < (v.length : Int) by omega)]
    have hv0 : v ≠ [] := fun e => by rw [e] at hv; simp at hv
    cases nameV n
    · rfl
    · simp only [Option.bind_some, Bool.not_true, cond_false, cond_true, decide_eq_false hv0]
      cases decide (o = []) <;> cases decide (o = [60, 60]) <;> cases decide (o = [60, 61]) <;> cases decide (o = [61]) <;> cases decide (o = [62, 61]) <;> cases decide (o = [62, 62]) <;> rfl

theorem textR_len (x : Rl) (h : x.1.length + x.2.1.length + x.2.2.length ≤ 200) : (textR x).length ≤ 204 := by
  unfold textR
  split
  · omega
  · simp; omega

theorem join_any (L : List (List UInt8)) (sep : List UInt8) (M : Nat) (hL : L.length ≤ 64) (hx : ∀ x ∈ L, x.length ≤ M) (hs : sep.length ≤ 3) (hM : M ≤ 1000000) : ∃ t, cellarerref06_Join L sep = some t ∧ t.length ≤ 64 * (M + 3) := by
  unfold cellarerref06_Join
  have key : ∀ (r : List (List UInt8)) (k : Nat) (t : List UInt8), L.drop k = r → k ≤ L.length → t.length ≤ k * (M + 3) → ∃ t', iter (cellarerref06_Join_b0 L sep) (t, (k : Int)) = some t' ∧ t'.length ≤ L.length * (M + 3) := by
    intro r
    induction r with
    | nil =>
      intro k t h hk ht
      have := drop_nil h
      have hk' : k = L.length := by omega
      subst hk'
      exact ⟨t, iter_inr (by unfold cellarerref06_Join_b0; simp), ht⟩
    | cons y r ih =>
      intro k t h hk ht
      obtain ⟨g1, g2, g3⟩ := drop_cons h []
      have hy := hx y (List.mem_of_mem_drop (by rw [h]; simp))
      have hkM : k * (M + 3) ≤ 64 * 1000003 := Nat.mul_le_mul (by omega) (by omega)
      have hk1 : (k + 1) * (M + 3) = k * (M + 3) + (M + 3) := by rw [Nat.add_mul, Nat.one_mul]
      by_cases h0 : k = 0
      · subst h0
        have hb : cellarerref06_Join_b0 L sep (t, ((0 : Nat) : Int)) = some (.inl (t ++ y, ((0 + 1 : Nat) : Int))) := by
          unfold cellarerref06_Join_b0
          simp only [Prod.snd, Prod.fst]
          rw [decide_eq_true (by omega), decide_eq_false (by omega)]
          simp only [cond_true, cond_false, Option.bind_some]
          rw [if_pos (by omega), Int.toNat_natCast, g2, if_pos (by omega), kplus g1 (by omega)]
        rw [iter_inl hb]
        exact ih 1 _ g3 (by omega) (by simp; omega)
      · have hb : cellarerref06_Join_b0 L sep (t, (k : Int)) = some (.inl (t ++ sep ++ y, ((k + 1 : Nat) : Int))) := by
          unfold cellarerref06_Join_b0
          simp only [Prod.snd, Prod.fst]
          rw [decide_eq_true (by omega), decide_eq_true (show (0 : Int) < (k : Int) by omega)]
          simp only [cond_true]
          rw [if_pos (by omega)]
          simp only [Option.bind_some]
          rw [if_pos (by omega), Int.toNat_natCast, g2, if_pos (by simp; omega), kplus g1 (by omega)]
        rw [iter_inl hb]
        exact ih (k + 1) _ g3 (by omega) (by simp; omega)
  obtain ⟨t, h1, h2⟩ := key L 0 [] rfl (by omega) (by simp)
  have h1' : iter (cellarerref06_Join_b0 L sep) ([], (0 : Int)) = some t := h1
  rw [h1']
  exact ⟨t, rfl, Nat.le_trans h2 (Nat.mul_le_mul hL (Nat.le_refl _))⟩

theorem all_b1 (l : List (List Rl)) (i : Nat) (hi : i < l.length) (W : List Rl) (hW : l.getD i [] = W) (hlen : W.length ≤ 64) (hf : ∀ x ∈ W, FitR x) :
    ∃ y, iter (cellarerref07_All_b1 l (i : Int)) ((0 : Int), []) = some y ∧ ∀ t, y = .inr t → t.length ≤ 64 ∧ ∀ x ∈ t, x.length ≤ 204 := by
  refine totG (fun (o : List (List UInt8)) k => ((k : Int), o)) (cellarerref07_All_b1 l (i : Int)) W.length (fun o k => o.length ≤ k ∧ k ≤ W.length ∧ ∀ x ∈ o, x.length ≤ 204) (fun t => t.length ≤ 64 ∧ ∀ x ∈ t, x.length ≤ 204) (fun o k hI hk => ⟨o, ?_, by omega, hI.2.2⟩) (fun o k hI hk => ?_) W.length [] 0 rfl ⟨by simp, by omega, by simp⟩
  · unfold cellarerref07_All_b1
    rw [if_pos (by omega)]
    simp only [Int.toNat_natCast, hW]
    rw [decide_eq_false (by omega)]
    rfl
  · have hg : W.getD k ([], [], []) = W[k] := by rw [List.getD_eq_getElem?_getD, List.getElem?_eq_getElem hk]; rfl
    have hfx := hf W[k] (List.getElem_mem hk)
    obtain ⟨b, r1, r2⟩ := right_any W[k] hfx
    cases b with
    | false =>
      left
      unfold cellarerref07_All_b1
      rw [if_pos (by omega), if_pos (by omega)]
      simp only [Int.toNat_natCast, hW, hg]
      rw [decide_eq_true (by omega), if_pos (by omega), r1]
      rfl
    | true =>
      have hlen2 := r2 rfl
      have htl := textR_len W[k] hlen2
      right
      refine ⟨o ++ [textR W[k]], ⟨by simp; omega, by omega, fun x hx => ?_⟩, ?_⟩
      · rcases List.mem_append.mp hx with hx | hx
        · exact hI.2.2 x hx
        · simp only [List.mem_singleton] at hx
          rw [hx]; exact htl
      · unfold cellarerref07_All_b1
        rw [if_pos (by omega), if_pos (by omega)]
        simp only [Int.toNat_natCast, hW, hg]
        rw [decide_eq_true (by omega), if_pos (by omega), r1]
        simp only [cond_true, Option.bind_some, Bool.not_true, cond_false]
        rw [if_pos (by omega), if_pos (by omega), refTextR_eq _ _ _ (by omega)]
        simp only [cond_true, Option.bind_some, Bool.not_true, cond_false]
        rw [if_pos (by simp; omega), kplus hk (by omega)]

theorem all_any (l : List (List Rl)) (hl : l.length ≤ 70) (hg : ∀ g ∈ l, g.length ≤ 9223372036854775807 ∧ ∀ x ∈ g, FitR x) : ∃ d, cellarerref07_All l = some d := by
  unfold cellarerref07_All
  have hall := all_loop (cellarerref07_All_b0 l) (fun _ g => decide (g.length ≤ 64)) l (fun k hk => by
    unfold cellarerref07_All_b0
    simp [show ¬ k < l.length by omega]) (fun k g r h => by
    obtain ⟨g1, g2, g3⟩ := drop_cons h []
    unfold cellarerref07_All_b0
    simp only [natlt, g1, decide_true, cond_true, Int.natCast_nonneg, true_and, if_true, Int.toNat_natCast, g2, kplus g1 (by omega)]
    by_cases hq : g.length ≤ 64
    · rw [decide_eq_false (show ¬ (64 : Int) < (g.length : Int) by omega), decide_eq_true hq]; rfl
    · rw [decide_eq_true (show (64 : Int) < (g.length : Int) by omega), decide_eq_false hq]; rfl) l 0 rfl
  have h0 : iter (cellarerref07_All_b0 l) (0 : Int) = _ := hall
  rw [h0, allFrom_all]
  cases ha : l.all fun g => decide (g.length ≤ 64) with
  | false => exact ⟨_, rfl⟩
  | true =>
    have hsh : ∀ g ∈ l, g.length ≤ 64 := fun g hgm => by simpa using List.all_eq_true.mp ha g hgm
    simp only [if_true, Option.bind_some, Sum.elim_inr]
    by_cases h64 : 64 < l.length
    · rw [decide_eq_true (show (64 : Int) < (l.length : Int) by omega)]; exact ⟨_, rfl⟩
    · rw [decide_eq_false (show ¬ (64 : Int) < (l.length : Int) by omega)]
      simp only [cond_false]
      obtain ⟨y, y1, y2⟩ := totG (fun (o : List (List UInt8)) k => ((k : Int), o)) (cellarerref07_All_b2 l) l.length (fun o k => o.length ≤ k ∧ k ≤ l.length ∧ ∀ x ∈ o, x.length ≤ 20000) (fun t => t.length ≤ 64 ∧ ∀ x ∈ t, x.length ≤ 20000) (fun o k hI hk => ⟨o, by
        unfold cellarerref07_All_b2
        simp only [Prod.snd, Prod.fst]
        rw [decide_eq_false (by omega)]
        rfl, by omega, hI.2.2⟩) (fun o k hI hk => by
        have hgk : l.getD k [] = l[k] := by rw [List.getD_eq_getElem?_getD, List.getElem?_eq_getElem hk]; rfl
        have hm : l[k] ∈ l := List.getElem_mem hk
        obtain ⟨z, z1, z2⟩ := all_b1 l k hk l[k] hgk (hsh _ hm) (hg _ hm).2
        have hb : cellarerref07_All_b2 l ((k : Int), o) = (some z).bind (Sum.elim (fun _ => some (.inr (.inl ()))) (fun t =>
            bif Decidable.decide ((↑(List.length t) : Int) - (↑(0 : Nat) : Int) = (0 : Int)) then some (.inr (.inl ()))
            else (cellarerref06_Join (List.drop (0 : Nat) t) ([(32 : UInt8), (124 : UInt8), (32 : UInt8)])).bind fun a =>
              if (List.length o + List.length ((fun (x : List (Ty.T Ty.str)) => x) [a])) * (16 : Nat) ≤ (17592186044416 : Nat) then some (.inl (IntKind.wrap IntKind.i64 ((k : Int) + (1 : Int)), o ++ [a])) else none)) := by
          unfold cellarerref07_All_b2
          simp only [Prod.snd, Prod.fst]
          rw [decide_eq_true (by omega), z1]
          rfl
        cases z with
        | inl u => left; rw [hb]; rfl
        | inr t =>
          obtain ⟨t1, t2⟩ := z2 t rfl
          simp only [Option.bind_some, Sum.elim_inr, List.drop_zero] at hb
          by_cases ht0 : t.length = 0
          · left
            rw [hb, decide_eq_true (by omega)]; rfl
          · rw [decide_eq_false (by omega)] at hb
            obtain ⟨a, a1, a2⟩ := join_any t [32, 124, 32] 204 t1 t2 (by decide) (by omega)
            rw [a1] at hb
            simp only [cond_false, Option.bind_some] at hb
            rw [if_pos (by simp; omega), kplus hk (by omega)] at hb
            right
            refine ⟨o ++ [a], ⟨by simp; omega, by omega, fun x hx => ?_⟩, hb⟩
            rcases List.mem_append.mp hx with hx | hx
            · exact hI.2.2 x hx
            · simp only [List.mem_singleton] at hx
              rw [hx]; omega) l.length [] 0 rfl ⟨by simp, by omega, by simp⟩
      have y1' : iter (cellarerref07_All_b2 l) ((0 : Int), []) = some y := y1
      rw [y1']
      cases y with
      | inl u => exact ⟨_, rfl⟩
      | inr t =>
        obtain ⟨t1, t2⟩ := y2 t rfl
        obtain ⟨a, a1, a2⟩ := join_any t [44, 32] 20000 t1 t2 (by decide) (by omega)
        simp only [Option.bind_some, Sum.elim_inr, List.drop_zero]
        rw [a1]
        exact ⟨_, rfl⟩

end Go.Cellar
