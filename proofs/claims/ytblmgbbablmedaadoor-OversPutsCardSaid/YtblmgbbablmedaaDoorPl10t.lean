/- Numbers as texts, by plain lists. No condition. -/
import Derived.Test.YtblmgbbablmedaaDoorPl10c
set_option linter.unusedSimpArgs false
set_option linter.unusedVariables false
namespace Go.Cellar
open Go

/-! ### numbers as texts -/

/-- A number's digits. -/
def dig (m : Nat) : List UInt8 := if h : m < 10 then [UInt8.ofNat (48 + m)] else dig (m / 10) ++ [UInt8.ofNat (48 + m % 10)]
termination_by m
decreasing_by omega

def digI (n : Int) : List UInt8 := if n < 0 then 45 :: dig n.natAbs else dig n.natAbs

theorem dig_small {m : Nat} (h : m < 10) : dig m = [UInt8.ofNat (48 + m % 10)] := by
  rw [dig, dif_pos h, Nat.mod_eq_of_lt h]
theorem dig_big {m : Nat} (h : ¬ m < 10) : dig m = dig (m / 10) ++ [UInt8.ofNat (48 + m % 10)] := by
  rw [dig, dif_neg h]

theorem dig_length : ∀ (k m : Nat), m < 10 ^ (k + 1) → (dig m).length ≤ k + 1 := by
  intro k
  induction k with
  | zero => intro m h; rw [dig]; simp at h; simp [h]
  | succ k ih =>
    intro m h
    rw [dig]
    split
    · simp
    · rw [List.length_append]
      have := ih (m / 10) (by rw [Nat.div_lt_iff_lt_mul (by omega)]; rw [Nat.pow_succ] at h; exact h)
      simp
      omega

theorem enc_digit (d : Nat) (h : d < 10) : enc ((48 : Int) + (d : Int)) = [UInt8.ofNat (48 + d)] := by
  have : d = 0 ∨ d = 1 ∨ d = 2 ∨ d = 3 ∨ d = 4 ∨ d = 5 ∨ d = 6 ∨ d = 7 ∨ d = 8 ∨ d = 9 := by omega
  rcases this with rfl | rfl | rfl | rfl | rfl | rfl | rfl | rfl | rfl | rfl <;> decide

theorem refText_loop : ∀ (k m : Nat), m < 10 ^ k → m < 18446744073709551616 → ∀ (t : List UInt8), t.length + k ≤ 140737488355328 →
    iter cellarerref01_Text_b0 ((m : Int), t) = some ((if 0 < m then dig m else []) ++ t) := by
  intro k
  induction k with
  | zero =>
    intro m h _ t ht
    have : m = 0 := by simpa using h
    subst this
    rw [iter_inr (t := t)]
    · simp
    · unfold cellarerref01_Text_b0
      simp
  | succ k ih =>
    intro m h hm t ht
    by_cases h0 : 0 < m
    · have e1 : Int.tmod (m : Int) 10 = ((m % 10 : Nat) : Int) := by rw [Int.tmod_eq_emod_of_nonneg (by omega)]; omega
      have e2 : Int.tdiv (m : Int) 10 = ((m / 10 : Nat) : Int) := by rw [Int.tdiv_eq_ediv_of_nonneg (by omega)]; omega
      rw [iter_inl (s' := (((m / 10 : Nat) : Int), UInt8.ofNat (48 + m % 10) :: t)), ih (m / 10) (by rw [Nat.div_lt_iff_lt_mul (by omega)]; rw [Nat.pow_succ] at h; exact h) (by omega) _ (by simp; omega)]
      · rw [if_pos h0]
        by_cases h10 : m < 10
        · have : m / 10 = 0 := by omega
          rw [dig_small h10, this, if_neg (by omega)]
          rfl
        · rw [dig_big h10, if_pos (by omega), List.append_assoc]
          rfl
      · unfold cellarerref01_Text_b0
        simp only [show (0 : Int) < (m : Int) by omega, decide_true, cond_true, e1, e2]
        rw [wu64 (n := (48 : Int) + ((m % 10 : Nat) : Int)) (by omega) (by omega), w32 (by omega) (by omega), wu64 (n := ((m / 10 : Nat) : Int)) (by omega) (by omega), enc_digit _ (by omega)]
        rw [if_pos (by simp; omega)]
        rfl
    · have : m = 0 := by omega
      subst this
      rw [iter_inr (t := t)]
      · simp
      · unfold cellarerref01_Text_b0
        simp

theorem abs64 {n : Int} (h : -9223372036854775808 ≤ n) (h' : n < 9223372036854775808) (hn : n < 0) : IntKind.wrap IntKind.u64 ((0 : Int) - IntKind.wrap IntKind.u64 n) = ((n.natAbs : Nat) : Int) := by
  simp only [IntKind.wrap, IntKind.signed, IntKind.bits]
  simp
  omega

theorem pos64 {n : Int} (h' : n < 9223372036854775808) (hn : ¬ n < 0) : IntKind.wrap IntKind.u64 n = ((n.natAbs : Nat) : Int) := by
  rw [wu64 (by omega) (by omega)]
  omega

theorem refText_eq (n : Int) (h : -9223372036854775808 ≤ n) (h' : n < 9223372036854775808) : cellarerref01_Text n = some (digI n) := by
  unfold cellarerref01_Text
  have hm : ∀ m : Nat, m ≤ 9223372036854775808 → iter cellarerref01_Text_b0 (IntKind.wrap IntKind.u64 (Int.tdiv (m : Int) (10 : Int)), enc (IntKind.wrap IntKind.i32 (IntKind.wrap IntKind.u64 ((48 : Int) + Int.tmod (m : Int) (10 : Int))))) = some (dig m) := by
    intro m hm
    have e1 : Int.tmod (m : Int) 10 = ((m % 10 : Nat) : Int) := by rw [Int.tmod_eq_emod_of_nonneg (by omega)]; omega
    have e2 : Int.tdiv (m : Int) 10 = ((m / 10 : Nat) : Int) := by rw [Int.tdiv_eq_ediv_of_nonneg (by omega)]; omega
    rw [e1, e2, wu64 (n := (48 : Int) + ((m % 10 : Nat) : Int)) (by omega) (by omega), w32 (by omega) (by omega), wu64 (n := ((m / 10 : Nat) : Int)) (by omega) (by omega), enc_digit _ (by omega),
      refText_loop 20 (m / 10) (by omega) (by omega) _ (by simp)]
    by_cases h10 : m < 10
    · have : m / 10 = 0 := by omega
      rw [dig_small h10, this, if_neg (by omega)]
      rfl
    · rw [dig_big h10, if_pos (by omega)]
  by_cases hn : n < 0
  · simp only [hn, decide_true, cond_true, Option.bind_some]
    rw [abs64 h h' hn, hm _ (by omega)]
    have := dig_length 19 n.natAbs (by omega)
    simp only [Option.bind_some, List.length_cons, List.length_nil]
    rw [if_pos (by omega)]
    simp [digI, hn]
  · simp only [hn, decide_false, cond_false, Option.bind_some]
    rw [pos64 h' hn, hm _ (by omega)]
    simp [digI, hn]

theorem bitsText_loop : ∀ (k m : Nat) (a : List Int), k ≤ 20 → m < 10 ^ k → m < 18446744073709551616 → a.length = 20 → ∃ (j : Nat) (a' : List Int),
    iter bits_Text_b0 ((m : Int), (k : Int), a) = some ((j : Int), a') ∧ a'.length = 20 ∧ j ≤ k ∧
      (a'.drop j).map (fun (n : Int) => UInt8.ofNat (Int.toNat n)) = (if k = 20 ∨ 0 < m then dig m else []) ++ (a.drop k).map (fun (n : Int) => UInt8.ofNat (Int.toNat n)) := by
  intro k
  induction k with
  | zero =>
    intro m a _ h _ ha
    have : m = 0 := by simpa using h
    subst this
    refine ⟨0, a, ?_, ha, Nat.le_refl _, by simp⟩
    rw [iter_inr (t := (((0 : Nat) : Int), a))]
    unfold bits_Text_b0
    simp
  | succ k ih =>
    intro m a hk h hm ha
    by_cases h0 : k + 1 = 20 ∨ 0 < m
    · have e1 : Int.tmod (m : Int) 10 = ((m % 10 : Nat) : Int) := by rw [Int.tmod_eq_emod_of_nonneg (by omega)]; omega
      have e2 : Int.tdiv (m : Int) 10 = ((m / 10 : Nat) : Int) := by rw [Int.tdiv_eq_ediv_of_nonneg (by omega)]; omega
      have e3 : ((k + 1 : Nat) : Int) - 1 = (k : Int) := by omega
      obtain ⟨j, a', h1, h2, h3, h4⟩ := ih (m / 10) (a.set k ((48 : Int) + ((m % 10 : Nat) : Int))) (by omega) (by rw [Nat.div_lt_iff_lt_mul (by omega)]; rw [Nat.pow_succ] at h; exact h) (by omega) (by simp [ha])
      refine ⟨j, a', ?_, h2, by omega, ?_⟩
      · rw [iter_inl (s' := (((m / 10 : Nat) : Int), (k : Int), a.set k ((48 : Int) + ((m % 10 : Nat) : Int)))), h1]
        unfold bits_Text_b0
        have hc : (bif decide (((k + 1 : Nat) : Int) = 20) then some (Sum.inl ()) else bif decide ((0 : Int) < (m : Int)) then some (Sum.inl ()) else some (Sum.inr ())) = (some (Sum.inl ()) : Option (Unit ⊕ Unit)) := by
          rcases h0 with h0 | h0
          · simp [show (((k + 1 : Nat) : Int) = 20) by omega]
          · simp [h0]
        simp only [hc, Option.bind_some, Sum.elim_inl, e3, e1, e2]
        rw [w64 (n := (k : Int)) (by omega) (by omega), wu64 (n := ((m / 10 : Nat) : Int)) (by omega) (by omega), wu8 (n := ((m % 10 : Nat) : Int)) (by omega) (by omega), wu8 (n := (48 : Int) + ((m % 10 : Nat) : Int)) (by omega) (by omega)]
        rw [if_pos (by simp [ha]; omega), if_pos (by simp [ha]; omega), Int.toNat_natCast]
      · rw [h4, if_pos h0]
        have e5 : (a.set k ((48 : Int) + ((m % 10 : Nat) : Int))).drop k = ((48 : Int) + ((m % 10 : Nat) : Int)) :: a.drop (k + 1) := by
          rw [List.drop_eq_getElem_cons (by simp; omega), List.getElem_set_self, List.drop_set_of_lt (by omega)]
        have e6 : Int.toNat ((48 : Int) + ((m % 10 : Nat) : Int)) = 48 + m % 10 := by omega
        rw [e5, List.map_cons, e6]
        by_cases h10 : m < 10
        · rw [dig_small h10, if_neg (by omega)]
          rfl
        · rw [dig_big h10, if_pos (by omega), List.append_assoc]
          rfl
    · have hm0 : m = 0 := by omega
      subst hm0
      refine ⟨k + 1, a, ?_, ha, Nat.le_refl _, by rw [if_neg h0]; rfl⟩
      rw [iter_inr (t := (((k + 1 : Nat) : Int), a))]
      unfold bits_Text_b0
      have e : decide (((k + 1 : Nat) : Int) = 20) = false := by simp; omega
      simp only [e, cond_false]
      rfl

theorem bitsText_eq (n : Int) (h : -9223372036854775808 ≤ n) (h' : n < 9223372036854775808) : bits_Text n = some (digI n) := by
  unfold bits_Text
  have hm : ∀ m : Nat, m ≤ 9223372036854775808 → ∃ (j : Nat) (a' : List Int), iter bits_Text_b0 ((m : Int), (20 : Int), List.replicate 20 (0 : Int)) = some ((j : Int), a') ∧ a'.length = 20 ∧ j ≤ 20 ∧
      (a'.drop j).map (fun (n : Int) => UInt8.ofNat (Int.toNat n)) = dig m := by
    intro m hm
    obtain ⟨j, a', h1, h2, h3, h4⟩ := bitsText_loop 20 m (List.replicate 20 (0 : Int)) (by omega) (by omega) (by omega) (by simp)
    refine ⟨j, a', h1, h2, h3, ?_⟩
    rw [h4]
    simp
  by_cases hn : n < 0
  · simp only [hn, decide_true, cond_true, Option.bind_some]
    rw [abs64 h h' hn]
    obtain ⟨j, a', h1, h2, h3, h4⟩ := hm n.natAbs (by omega)
    rw [h1]
    simp only [Option.bind_some, Int.toNat_natCast]
    have e : a'.take 20 = a' := List.take_of_length_le (by omega)
    rw [if_pos (by refine ⟨h2, ?_⟩; omega), e, h4]
    have := dig_length 19 n.natAbs (by omega)
    rw [if_pos (by simp; omega)]
    simp [digI, hn]
  · simp only [hn, decide_false, cond_false, Option.bind_some]
    rw [pos64 h' hn]
    obtain ⟨j, a', h1, h2, h3, h4⟩ := hm n.natAbs (by omega)
    rw [h1]
    simp only [Option.bind_some, Int.toNat_natCast]
    have e : a'.take 20 = a' := List.take_of_length_le (by omega)
    rw [if_pos (by refine ⟨h2, ?_⟩; omega), e, h4]
    simp [digI, hn]

end Go.Cellar
