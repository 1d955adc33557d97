/- RelationLacks, as a plain law. No condition. -/
import Derived.Test.YtjjlkckemfdckaaDoorPl7m
set_option linter.unusedSimpArgs false
set_option linter.unusedVariables false
set_option maxRecDepth 4000
namespace Go.Cellar
open Go

theorem lacks_b0 (there : List Rl) (a b c : List UInt8) (hc : c.length ≤ 100000) (ht : SmG there) : iter (cellarerlaw07_RelationLacks_b0 there a b c) (0 : Int) = some (.inr ()) := by
  have := all_loop (cellarerlaw07_RelationLacks_b0 there a b c) (fun _ _ => true) there (fun k hk => by
    unfold cellarerlaw07_RelationLacks_b0
    simp [show ¬ k < there.length by omega]) (fun k y r h => by
    obtain ⟨g1, g2, g3⟩ := drop_cons h ([], [], [])
    have hy := ht.2 y (List.mem_of_mem_drop (by rw [h]; simp))
    have hl := ht.1
    unfold cellarerlaw07_RelationLacks_b0
    simp only [natlt, g1, decide_true, cond_true, Int.natCast_nonneg, true_and, if_true, Int.toNat_natCast, g2, kplus g1 (by omega), fits_eq a b c y.1 y.2.2 hc hy, refFits_eq a b c y.1 y.2.2 hc hy, Option.bind_some, Bool.not_true, cond_false]) there 0 rfl
  have h2 : iter (cellarerlaw07_RelationLacks_b0 there a b c) (0 : Int) = _ := this
  rw [h2, allFrom_all]
  simp

theorem lacks_b1 (a : List Int) (ha : a.length < 1000000) : iter (cellarerlaw07_RelationLacks_b1 a a) (0 : Int) = some (.inr ()) := by
  have := all_loop (cellarerlaw07_RelationLacks_b1 a a) (fun _ _ => true) a (fun k hk => by
    unfold cellarerlaw07_RelationLacks_b1
    rw [decide_eq_false (by omega)]
    rfl) (fun k y r h => by
    obtain ⟨g1, g2, g3⟩ := drop_cons h 0
    unfold cellarerlaw07_RelationLacks_b1
    rw [decide_eq_true (by omega), if_pos (by omega), if_pos (by simpa using g1), if_pos (by omega), if_pos (by simpa using g1), kplus g1 (by omega)]
    simp) a 0 rfl
  have h2 : iter (cellarerlaw07_RelationLacks_b1 a a) (0 : Int) = _ := this
  rw [h2, allFrom_all]
  simp

theorem lacks_b2 (a c : List Int) (ha : a.length < 1000000) (i : Nat) (hi : i < c.length) : ∀ (r : List Int) (k : Nat) (m : Bool), a.drop k = r →
    iter (cellarerlaw07_RelationLacks_b2 (i : Int) a c) (m, (k : Int)) = some (m || decide (c.getD i 0 ∈ r)) := by
  intro r
  induction r with
  | nil =>
    intro k m h
    have hk := drop_nil h
    rw [iter_inr (t := m)]
    · simp
    · unfold cellarerlaw07_RelationLacks_b2
      simp only [Prod.snd, Prod.fst]
      rw [decide_eq_false (by omega)]
      rfl
  | cons y r ih =>
    intro k m h
    obtain ⟨g1, g2, g3⟩ := drop_cons h 0
    cases m with
    | true =>
      rw [iter_inl (s' := (true, ((k + 1 : Nat) : Int))), ih (k + 1) true g3]
      · rfl
      · unfold cellarerlaw07_RelationLacks_b2
        simp only [Prod.snd, Prod.fst]
        rw [decide_eq_true (by omega), kplus g1 (by omega)]
        rfl
    | false =>
      rw [iter_inl (s' := (decide (y = c.getD i 0), ((k + 1 : Nat) : Int))), ih (k + 1) _ g3]
      · by_cases hy : y = c.getD i 0
        · simp [hy]
        · have : (c.getD i 0 ∈ y :: r) = (c.getD i 0 ∈ r) := by
            rw [List.mem_cons]
            exact propext ⟨fun h => h.resolve_left (fun e => hy e.symm), .inr⟩
          simp only [this, decide_eq_false hy]
      · unfold cellarerlaw07_RelationLacks_b2
        simp only [Prod.snd, Prod.fst]
        rw [decide_eq_true (by omega), if_pos (by omega), if_pos (by simpa using g1), if_pos (by omega), if_pos (by simpa using hi), kplus g1 (by omega)]
        simp only [cond_true, cond_false, Int.toNat_natCast, Nat.zero_add, g2]

theorem lacks_b3 (a c : List Int) (ha : a.length < 1000000) (hc : c.length < 1000000) (hs : ∀ x ∈ c, x ∈ a) : iter (cellarerlaw07_RelationLacks_b3 a c) (0 : Int) = some (.inr ()) := by
  have := all_loop (cellarerlaw07_RelationLacks_b3 a c) (fun _ _ => true) c (fun k hk => by
    unfold cellarerlaw07_RelationLacks_b3
    rw [decide_eq_false (by omega)]
    rfl) (fun k y r h => by
    obtain ⟨g1, g2, g3⟩ := drop_cons h 0
    have hy : c.getD k 0 ∈ a := by rw [g2]; exact hs y (List.mem_of_mem_drop (by rw [h]; simp))
    have h2 : iter (cellarerlaw07_RelationLacks_b2 (k : Int) a c) (false, (0 : Int)) = some (false || decide (c.getD k 0 ∈ a)) := lacks_b2 a c ha k g1 a 0 false rfl
    unfold cellarerlaw07_RelationLacks_b3
    rw [decide_eq_true (by omega), h2, decide_eq_true hy, kplus g1 (by omega)]
    rfl) c 0 rfl
  have h2 : iter (cellarerlaw07_RelationLacks_b3 a c) (0 : Int) = _ := this
  rw [h2, allFrom_all]
  simp

theorem RelationLacks_true (l : List (List Rl)) (there : List Rl) (a b c : List UInt8) : cellarerlaw07_RelationLacks l there a b c = some true := by
  unfold cellarerlaw07_RelationLacks
  rw [awake7]
  obtain ⟨v, h1, h2⟩ := few7 l
  rw [h1]
  cases v with
  | false => rfl
  | true =>
    obtain ⟨v', h3, h4⟩ := few7 [there, [(a, b, c)]]
    simp only [Option.bind_some, Bool.not_true, cond_false]
    rw [h3]
    cases v' with
    | false => rfl
    | true =>
      obtain ⟨q1, q2⟩ := h2 rfl
      obtain ⟨_, q3⟩ := h4 rfl
      obtain ⟨t1, t2⟩ := q3 there (by simp)
      obtain ⟨_, m2⟩ := q3 [(a, b, c)] (by simp)
      have hm := m2 (a, b, c) (by simp)
      unfold ShR at hm
      simp only at hm
      have ht : SmG there := ⟨by omega, fun y hy => by have := (t2 y hy).2.2; omega⟩
      have hg : ∀ g ∈ l, SmG g := fun g hgm => ⟨by have := (q2 g hgm).1; omega, fun y hy => by have := ((q2 g hgm).2 y hy).2.2; omega⟩
      have hall : SmG (there ++ [(a, b, c)]) := ⟨by simp; omega, fun y hy => by
        rcases List.mem_append.mp hy with hy | hy
        · exact ht.2 y hy
        · simp only [List.mem_singleton] at hy
          subst hy
          simp only; omega⟩
      have hla := lacksFrom_len there l 0
      have hlc := lacksFrom_len (there ++ [(a, b, c)]) l 0
      simp only [Option.bind_some, Bool.not_true, cond_false, Sum.elim_inr]
      rw [lacks_b0 there a b c (by omega) ht]
      simp only [Option.bind_some, Sum.elim_inr]
      rw [lacks_eq l there (by omega) hg ht]
      simp only [Option.bind_some]
      rw [refLacks_eq l there (by omega) hg ht]
      simp only [Option.bind_some, decide_true, Bool.not_true, cond_false]
      rw [lacks_b1 _ (by omega)]
      simp only [Option.bind_some, Sum.elim_inr]
      rw [if_pos (by omega), if_pos (by simp; omega), List.drop_zero, lacks_eq l _ (by omega) hg hall]
      simp only [Option.bind_some]
      rw [lacks_b3 _ _ (by omega) (by omega) (lacks_sub there [(a, b, c)] l 0)]
      rfl

end Go.Cellar
