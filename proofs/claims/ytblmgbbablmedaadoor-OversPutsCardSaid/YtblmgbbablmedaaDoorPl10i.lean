/- Whole numbers, read and written, by plain lists. No condition. -/
import Derived.Test.YtblmgbbablmedaaDoorPl10n
set_option linter.unusedSimpArgs false
set_option linter.unusedVariables false
set_option maxRecDepth 4000
namespace Go.Cellar
open Go

def isDg (c : UInt8) : Bool := decide (48 ≤ c.toNat) && decide (c.toNat ≤ 57)
def valD (u : Nat) (l : List UInt8) : Nat := l.foldl (fun a c => 10 * a + (c.toNat - 48)) u

theorem isDg_digit (d : Nat) (h : d < 10) : isDg (UInt8.ofNat (48 + d)) = true ∧ (UInt8.ofNat (48 + d)).toNat = 48 + d := by
  have e : (UInt8.ofNat (48 + d)).toNat = 48 + d := by rw [UInt8.toNat_ofNat']; omega
  exact ⟨by simp only [isDg, e, Bool.and_eq_true, decide_eq_true_eq]; omega, e⟩

theorem dig_all : ∀ (k m : Nat), m < 10 ^ k → ∀ c ∈ dig m, isDg c = true := by
  intro k
  induction k with
  | zero => intro m h; have : m = 0 := by simpa using h
            subst this; intro c hc; rw [dig_small (by omega)] at hc; simp only [List.mem_singleton] at hc; subst hc; exact (isDg_digit 0 (by omega)).1
  | succ k ih =>
    intro m h c hc
    by_cases h10 : m < 10
    · rw [dig_small h10] at hc; simp only [List.mem_singleton] at hc; subst hc; exact (isDg_digit (m % 10) (by omega)).1
    · rw [dig_big h10] at hc
      rcases List.mem_append.mp hc with hc | hc
      · exact ih (m / 10) (by rw [Nat.div_lt_iff_lt_mul (by omega)]; rw [Nat.pow_succ] at h; exact h) c hc
      · simp only [List.mem_singleton] at hc; subst hc; exact (isDg_digit (m % 10) (by omega)).1

theorem dig_val : ∀ (k m : Nat), m < 10 ^ k → valD 0 (dig m) = m := by
  intro k
  induction k with
  | zero => intro m h; have : m = 0 := by simpa using h
            subst this; rw [dig_small (by omega)]; rfl
  | succ k ih =>
    intro m h
    by_cases h10 : m < 10
    · rw [dig_small h10]
      simp only [valD, List.foldl_cons, List.foldl_nil, (isDg_digit (m % 10) (by omega)).2]; omega
    · rw [dig_big h10]
      have := ih (m / 10) (by rw [Nat.div_lt_iff_lt_mul (by omega)]; rw [Nat.pow_succ] at h; exact h)
      unfold valD at this ⊢
      rw [List.foldl_append, this]
      simp only [List.foldl_cons, List.foldl_nil, (isDg_digit (m % 10) (by omega)).2]; omega

theorem dig_ne (m : Nat) : dig m ≠ [] := by
  rw [dig]; split <;> simp

theorem dig_len8 {m : Nat} (h : m < 100000000) : (dig m).length ≤ 8 := dig_length 7 m (by omega)

theorem wrap_range (x : Int) : -9223372036854775808 ≤ IntKind.wrap IntKind.i64 x ∧ IntKind.wrap IntKind.i64 x < 9223372036854775808 := by
  simp only [IntKind.wrap, IntKind.signed, IntKind.bits]
  simp
  omega

/-- The program's loop over digits ends. -/
theorem int_some (d : List UInt8) (hd : d.length < 1000000) : ∀ (r : List UInt8) (k : Nat) (u : Int), d.drop k = r → ∃ x, iter (bits_Int_b0 d (d.length : Int)) (u, (k : Int)) = some x := by
  intro r
  induction r with
  | nil =>
    intro k u h
    have := drop_nil h
    exact ⟨.inr u, iter_inr (by unfold bits_Int_b0; simp [show ¬ k < d.length by omega])⟩
  | cons c r ih =>
    intro k u h
    obtain ⟨g1, g2, g3⟩ := drop_cons h 0
    by_cases hc : isDg c = true
    · obtain ⟨x, hx⟩ := ih (k + 1) (IntKind.wrap IntKind.u64 (IntKind.wrap IntKind.u64 (u * 10) + IntKind.wrap IntKind.u64 (IntKind.wrap IntKind.u8 ((c.toNat : Int) - 48)))) g3
      refine ⟨x, ?_⟩
      rw [iter_inl (s' := (IntKind.wrap IntKind.u64 (IntKind.wrap IntKind.u64 (u * 10) + IntKind.wrap IntKind.u64 (IntKind.wrap IntKind.u8 ((c.toNat : Int) - 48))), ((k + 1 : Nat) : Int))), hx]
      unfold bits_Int_b0
      simp only [isDg, Bool.and_eq_true, decide_eq_true_eq] at hc
      simp only [natlt, g1, decide_true, cond_true, Int.natCast_nonneg, true_and, if_true, Int.toNat_natCast, g2, kplus g1 (by omega), show ¬ ((c.toNat : Int) < 48) by omega, show ¬ ((57 : Int) < (c.toNat : Int)) by omega, decide_false, cond_false, Option.bind_some, Sum.elim_inr]
    · refine ⟨.inl (), iter_inr ?_⟩
      unfold bits_Int_b0
      simp only [isDg, Bool.and_eq_true, decide_eq_true_eq] at hc
      by_cases h8 : (c.toNat : Int) < 48
      · simp only [natlt, g1, decide_true, cond_true, Int.natCast_nonneg, true_and, if_true, Int.toNat_natCast, g2, h8, Option.bind_some, Sum.elim_inl]
      · simp only [natlt, g1, decide_true, cond_true, Int.natCast_nonneg, true_and, if_true, Int.toNat_natCast, g2, h8, decide_false, cond_false, show ((57 : Int) < (c.toNat : Int)) by omega, Option.bind_some, Sum.elim_inl]

theorem valD_lt : ∀ (r : List UInt8) (u k : Nat), (∀ c ∈ r, isDg c = true) → u < 10 ^ k → valD u r < 10 ^ (k + r.length) := by
  intro r
  induction r with
  | nil => intro u k _ h; simpa [valD] using h
  | cons c r ih =>
    intro u k hr h
    have hc := hr c (by simp)
    simp only [isDg, Bool.and_eq_true, decide_eq_true_eq] at hc
    have := ih (10 * u + (c.toNat - 48)) (k + 1) (fun x hx => hr x (by simp [hx])) (by rw [Nat.pow_succ]; omega)
    simp only [valD, List.foldl_cons, List.length_cons] at this ⊢
    rw [show k + (r.length + 1) = k + 1 + r.length by omega]
    exact this

theorem int_val (d : List UInt8) (hd : d.length ≤ 8) (ha : ∀ c ∈ d, isDg c = true) : ∀ (r : List UInt8) (k u : Nat), d.drop k = r → k + r.length = d.length → u < 10 ^ k →
    iter (bits_Int_b0 d (d.length : Int)) ((u : Int), (k : Int)) = some (.inr ((valD u r : Nat) : Int)) := by
  intro r
  induction r with
  | nil =>
    intro k u h hk hu
    have := drop_nil h
    rw [iter_inr (t := .inr (u : Int)) (by unfold bits_Int_b0; simp [show ¬ k < d.length by omega])]
    rfl
  | cons c r ih =>
    intro k u h hk hu
    obtain ⟨g1, g2, g3⟩ := drop_cons h 0
    have hc : isDg c = true := ha c (List.mem_of_mem_drop (by rw [h]; simp))
    simp only [isDg, Bool.and_eq_true, decide_eq_true_eq] at hc
    simp only [List.length_cons] at hk
    have hp : (10 ^ k : Nat) ≤ 10 ^ 8 := Nat.pow_le_pow_right (by omega) (by omega)
    have e8 : (10 ^ 8 : Nat) = 100000000 := rfl
    rw [iter_inl (s' := (((10 * u + (c.toNat - 48) : Nat) : Int), ((k + 1 : Nat) : Int))), ih (k + 1) _ g3 (by omega) (by rw [Nat.pow_succ]; omega)]
    · rfl
    · unfold bits_Int_b0
      simp only [natlt, g1, decide_true, cond_true, Int.natCast_nonneg, true_and, if_true, Int.toNat_natCast, g2, kplus g1 (by omega), show ¬ ((c.toNat : Int) < 48) by omega, show ¬ ((57 : Int) < (c.toNat : Int)) by omega, decide_false, cond_false, Option.bind_some, Sum.elim_inr]
      rw [wu8 (n := (c.toNat : Int) - 48) (by omega) (by omega), wu64 (n := (c.toNat : Int) - 48) (by omega) (by omega), wu64 (n := (u : Int) * 10) (by omega) (by omega), wu64 (by omega) (by omega)]
      congr 4
      omega

/-- Any text as a number: some answer; where it is one, the text is the number's. -/
theorem bitsInt_some (s : List UInt8) (hs : s.length < 1000000) : ∃ n e, bits_Int s = some (n, e) ∧ (e = 0 → digI n = s) := by
  unfold bits_Int
  obtain ⟨d, ng, hd, hdl⟩ : ∃ (d : List UInt8) (ng : Bool), (bif Decidable.decide ((0 : Int) < (s.length : Int)) then
      if (0 : Int) ≤ (0 : Int) ∧ (0 : Int) < (s.length : Int) then
        bif Decidable.decide (((s.getD (Int.toNat (0 : Int)) 0).toNat : Int) = 45) then
          if (0 : Int) ≤ (1 : Int) ∧ (1 : Int) ≤ (s.length : Int) ∧ (s.length : Int) ≤ (s.length : Int) then
            some (List.drop (Int.toNat (1 : Int)) (List.take (Int.toNat (s.length : Int)) s), true)
          else none
        else some (s, false)
      else none
    else some (s, false)) = some (d, ng) ∧ d.length ≤ s.length := by
    by_cases h0 : 0 < s.length
    · rw [decide_eq_true (show (0 : Int) < (s.length : Int) by omega)]
      simp only [cond_true]
      rw [if_pos (by omega)]
      cases hq : decide (((s.getD (Int.toNat (0 : Int)) 0).toNat : Int) = 45)
      · exact ⟨_, _, rfl, Nat.le_refl _⟩
      · simp only [cond_true]
        rw [if_pos (by omega)]
        exact ⟨_, _, rfl, by simp⟩
    · rw [decide_eq_false (show ¬ (0 : Int) < (s.length : Int) by omega)]
      exact ⟨_, _, rfl, Nat.le_refl _⟩
  rw [hd]
  simp only [Option.bind_some]
  by_cases hz : (d.length : Int) = 0
  · simp only [hz, decide_true, cond_true, Option.bind_some, Sum.elim_inl]
    exact ⟨_, _, rfl, fun h => absurd h (by decide)⟩
  · by_cases h19 : (19 : Int) < (d.length : Int)
    · simp only [hz, h19, decide_true, decide_false, cond_true, cond_false, Option.bind_some, Sum.elim_inl]
      exact ⟨_, _, rfl, fun h => absurd h (by decide)⟩
    · simp only [hz, h19, decide_false, cond_false, Option.bind_some, Sum.elim_inr]
      obtain ⟨x, hx⟩ := int_some d (by omega) d 0 0 rfl
      have hx' : iter (bits_Int_b0 d (d.length : Int)) ((0 : Int), (0 : Int)) = some x := hx
      rw [hx', Option.bind_some]
      rcases x with x | x
      · exact ⟨_, _, rfl, fun h => absurd h (by decide)⟩
      · simp only [Sum.elim_inr]
        obtain ⟨y, hy⟩ : ∃ y, (bif ng then some (IntKind.wrap IntKind.i64 (IntKind.wrap IntKind.u64 ((0 : Int) - x))) else some (IntKind.wrap IntKind.i64 x)) = some (IntKind.wrap IntKind.i64 y) := by
          cases ng <;> exact ⟨_, rfl⟩
        rw [hy, Option.bind_some]
        obtain ⟨w1, w2⟩ := wrap_range y
        rw [bitsText_eq _ w1 w2, Option.bind_some]
        by_cases hq : digI (IntKind.wrap IntKind.i64 y) = s
        · simp only [hq, decide_true, Bool.not_true, cond_false]
          exact ⟨_, _, rfl, fun _ => hq⟩
        · simp only [hq, decide_false, Bool.not_false, cond_true]
          exact ⟨_, _, rfl, fun h => absurd h (by decide)⟩

theorem digI_nat (m : Nat) : digI (m : Int) = dig m := by
  unfold digI
  rw [if_neg (by omega)]
  rfl

theorem dig_first {m : Nat} (h : m < 100000000) : ∀ c, (dig m).getD 0 c = 45 → False := by
  intro c hc
  cases hd : dig m with
  | nil => exact dig_ne m hd
  | cons x r =>
    rw [hd] at hc
    have hx := dig_all 8 m (by omega) x (by rw [hd]; simp)
    have : x = 45 := hc
    subst this
    exact absurd hx (by decide)

theorem u8_45 (c : UInt8) : ((c.toNat : Int) = 45) = (c = 45) := propext ⟨fun h => UInt8.toNat_inj.mp (by have : (45 : UInt8).toNat = 45 := rfl; omega), fun h => by subst h; rfl⟩

theorem bitsInt_dig (m : Nat) (h : m < 100000000) : bits_Int (dig m) = some ((m : Int), 0) := by
  unfold bits_Int
  have hl := dig_len8 h
  have hne : 0 < (dig m).length := List.length_pos_iff.mpr (dig_ne m)
  have hq : decide ((((dig m).getD (Int.toNat (0 : Int)) 0).toNat : Int) = 45) = false := by
    exact decide_eq_false fun e => dig_first h 0 (cast (u8_45 _) e)
  rw [decide_eq_true (show (0 : Int) < ((dig m).length : Int) by omega)]
  simp only [cond_true]
  rw [if_pos (by omega), hq]
  simp only [cond_false, Option.bind_some, show ¬ (((dig m).length : Int) = 0) by omega, show ¬ ((19 : Int) < ((dig m).length : Int)) by omega, decide_false, Sum.elim_inr]
  have hv := int_val (dig m) hl (dig_all 8 m (by omega)) (dig m) 0 0 rfl (by omega) (by omega)
  rw [dig_val 8 m (by omega)] at hv
  have hv' : iter (bits_Int_b0 (dig m) ((dig m).length : Int)) ((0 : Int), (0 : Int)) = some (.inr (m : Int)) := hv
  rw [hv', Option.bind_some]
  simp only [Sum.elim_inr, Option.bind_some]
  rw [w64 (by omega) (by omega), bitsText_eq _ (by omega) (by omega), digI_nat]
  simp

/-! ### the document's numbers -/

theorem rInt_some (s : List UInt8) (hs : s.length < 1000000) : ∀ (r : List UInt8) (k : Nat) (u : Int), s.drop k = r → ∃ x, iter (cellarerref01_Int_b0 s) (u, (k : Int)) = some x := by
  intro r
  induction r with
  | nil =>
    intro k u h
    have := drop_nil h
    exact ⟨u, iter_inr (by unfold cellarerref01_Int_b0; simp [show ¬ k < s.length by omega])⟩
  | cons c r ih =>
    intro k u h
    obtain ⟨g1, g2, g3⟩ := drop_cons h 0
    by_cases hc : (c.toNat : Int) = 45
    · obtain ⟨x, hx⟩ := ih (k + 1) u g3
      refine ⟨x, ?_⟩
      rw [iter_inl (s' := (u, ((k + 1 : Nat) : Int))), hx]
      unfold cellarerref01_Int_b0
      simp only [natlt, g1, decide_true, cond_true, Int.natCast_nonneg, true_and, if_true, Int.toNat_natCast, g2, kplus g1 (by omega), hc, Bool.not_true, cond_false]
    · obtain ⟨x, hx⟩ := ih (k + 1) (IntKind.wrap IntKind.u64 (IntKind.wrap IntKind.u64 (IntKind.wrap IntKind.u64 ((10 : Int) * u) + IntKind.wrap IntKind.u64 (c.toNat : Int)) - 48)) g3
      refine ⟨x, ?_⟩
      rw [iter_inl (s' := (IntKind.wrap IntKind.u64 (IntKind.wrap IntKind.u64 (IntKind.wrap IntKind.u64 ((10 : Int) * u) + IntKind.wrap IntKind.u64 (c.toNat : Int)) - 48), ((k + 1 : Nat) : Int))), hx]
      unfold cellarerref01_Int_b0
      simp only [natlt, g1, decide_true, cond_true, Int.natCast_nonneg, true_and, if_true, Int.toNat_natCast, g2, kplus g1 (by omega), hc, decide_false, Bool.not_false, cond_true]

theorem rInt_val (s : List UInt8) (hd : s.length ≤ 8) (ha : ∀ c ∈ s, isDg c = true) : ∀ (r : List UInt8) (k u : Nat), s.drop k = r → k + r.length = s.length → u < 10 ^ k →
    iter (cellarerref01_Int_b0 s) ((u : Int), (k : Int)) = some ((valD u r : Nat) : Int) := by
  intro r
  induction r with
  | nil =>
    intro k u h hk hu
    have := drop_nil h
    rw [iter_inr (t := (u : Int)) (by unfold cellarerref01_Int_b0; simp [show ¬ k < s.length by omega])]
    rfl
  | cons c r ih =>
    intro k u h hk hu
    obtain ⟨g1, g2, g3⟩ := drop_cons h 0
    have hc : isDg c = true := ha c (List.mem_of_mem_drop (by rw [h]; simp))
    simp only [isDg, Bool.and_eq_true, decide_eq_true_eq] at hc
    simp only [List.length_cons] at hk
    have hp : (10 ^ k : Nat) ≤ 10 ^ 8 := Nat.pow_le_pow_right (by omega) (by omega)
    have e8 : (10 ^ 8 : Nat) = 100000000 := rfl
    rw [iter_inl (s' := (((10 * u + (c.toNat - 48) : Nat) : Int), ((k + 1 : Nat) : Int))), ih (k + 1) _ g3 (by omega) (by rw [Nat.pow_succ]; omega)]
    · rfl
    · unfold cellarerref01_Int_b0
      simp only [natlt, g1, decide_true, cond_true, Int.natCast_nonneg, true_and, if_true, Int.toNat_natCast, g2, kplus g1 (by omega), show ¬ ((c.toNat : Int) = 45) by omega, decide_false, Bool.not_false, cond_true]
      rw [wu64 (n := (10 : Int) * (u : Int)) (by omega) (by omega), wu64 (n := (c.toNat : Int)) (by omega) (by omega), wu64 (n := (10 : Int) * (u : Int) + (c.toNat : Int)) (by omega) (by omega), wu64 (by omega) (by omega)]
      congr 4
      omega

theorem refInt_some (s : List UInt8) (hs : s.length < 1000000) : ∃ n ok, cellarerref01_Int s = some (n, ok) := by
  unfold cellarerref01_Int
  obtain ⟨ng, hng⟩ : ∃ ng : Bool, (bif Decidable.decide ((0 : Int) < (s.length : Int)) then
      if (0 : Int) ≤ (0 : Int) ∧ (0 : Int) < (s.length : Int) then
        some (Decidable.decide (((s.getD (Int.toNat (0 : Int)) 0).toNat : Int) = 45))
      else none
    else some false) = some ng := by
    by_cases h0 : 0 < s.length
    · rw [decide_eq_true (show (0 : Int) < (s.length : Int) by omega)]
      simp only [cond_true]
      rw [if_pos (by omega)]
      exact ⟨_, rfl⟩
    · rw [decide_eq_false (show ¬ (0 : Int) < (s.length : Int) by omega)]
      exact ⟨_, rfl⟩
  rw [hng, Option.bind_some]
  by_cases h20 : (20 : Int) < (s.length : Int)
  · simp only [h20, decide_true, cond_true]; exact ⟨_, _, rfl⟩
  · simp only [h20, decide_false, cond_false]
    obtain ⟨x, hx⟩ := rInt_some s hs s 0 0 rfl
    have hx' : iter (cellarerref01_Int_b0 s) ((0 : Int), (0 : Int)) = some x := hx
    rw [hx', Option.bind_some]
    obtain ⟨y, hy⟩ : ∃ y : Int, (bif ng then some (IntKind.wrap IntKind.u64 ((0 : Int) - x)) else some x) = some y := by
      cases ng <;> exact ⟨_, rfl⟩
    rw [hy, Option.bind_some]
    obtain ⟨w1, w2⟩ := wrap_range y
    rw [refText_eq _ w1 w2, Option.bind_some]
    cases (!decide (digI (IntKind.wrap IntKind.i64 y) = s)) <;> exact ⟨_, _, rfl⟩

theorem refInt_dig (m : Nat) (h : m < 100000000) : cellarerref01_Int (dig m) = some ((m : Int), true) := by
  unfold cellarerref01_Int
  have hl := dig_len8 h
  have hne : 0 < (dig m).length := List.length_pos_iff.mpr (dig_ne m)
  have hq : decide ((((dig m).getD (Int.toNat (0 : Int)) 0).toNat : Int) = 45) = false := by
    exact decide_eq_false fun e => dig_first h 0 (cast (u8_45 _) e)
  rw [decide_eq_true (show (0 : Int) < ((dig m).length : Int) by omega)]
  simp only [cond_true]
  rw [if_pos (by omega), hq, Option.bind_some, decide_eq_false (show ¬ ((20 : Int) < ((dig m).length : Int)) by omega)]
  have hv := rInt_val (dig m) hl (dig_all 8 m (by omega)) (dig m) 0 0 rfl (by omega) (by omega)
  rw [dig_val 8 m (by omega)] at hv
  have hv' : iter (cellarerref01_Int_b0 (dig m)) ((0 : Int), (0 : Int)) = some (m : Int) := hv
  simp only [cond_false, hv', Option.bind_some]
  rw [w64 (by omega) (by omega), refText_eq _ (by omega) (by omega), digI_nat]
  simp

end Go.Cellar
