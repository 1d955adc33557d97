/- Places of a byte, by plain lists. No condition. -/
import Derived.Test.YtapfjjbgcfnnmaaDoorPl0
import Derived.Test.YtapfjjbgcfnnmaaDoorFun20
set_option linter.unusedSimpArgs false
set_option linter.unusedVariables false
set_option maxRecDepth 4000
namespace Go.Cellar
open Go

theorem idxByte_shift (c : Int) : ∀ (l : List UInt8) (i j : Int), 0 ≤ i → 0 ≤ j → (0 ≤ idxByte c l i ↔ 0 ≤ idxByte c l j) := by
  intro l
  induction l with
  | nil => intro i j _ _; simp [idxByte]
  | cons x r ih =>
    intro i j hi hj
    simp only [idxByte]
    split
    · omega
    · exact ih _ _ (by omega) (by omega)

def lastIdx (c : Int) : List UInt8 → Int → Int → Int
  | [], _, o => o
  | x :: r, i, o => lastIdx c r (i + 1) (if (x.toNat : Int) = c then i else o)

theorem at_first_loop (s : List UInt8) (c : Int) (hs : s.length < 4611686018427387904) : ∀ (r : List UInt8) (k : Nat) (o : Int), s.drop k = r →
    iter (cellarerref05_at_b0 s c false) (o, (k : Int)) = some (if o < 0 then (if idxByte c r k < 0 then o else idxByte c r k) else o) := by
  intro r
  induction r with
  | nil =>
    intro k o h
    have := drop_nil h
    rw [iter_inr (t := o)]
    · simp [idxByte]
    · unfold cellarerref05_at_b0
      simp [show ¬ k < s.length by omega]
  | cons x r ih =>
    intro k o h
    obtain ⟨h1, h2, h3⟩ := drop_cons h 0
    rw [iter_inl (s' := (if (x.toNat : Int) = c ∧ o < 0 then (k : Int) else o, ((k + 1 : Nat) : Int))), ih _ _ h3]
    · simp only [idxByte, Int.natCast_add, Int.cast_ofNat_Int]
      by_cases hx : (x.toNat : Int) = c <;> by_cases ho : o < 0 <;> simp [hx, ho]
      omega
    · unfold cellarerref05_at_b0
      simp only [natlt, h1, decide_true, cond_true, Int.natCast_nonneg, and_self, if_true, Int.toNat_natCast, h2, Bool.cond_decide]
      rw [w64 (by omega) (by omega)]
      by_cases hx : (x.toNat : Int) = c <;> by_cases ho : o < 0 <;> simp [hx, ho]

theorem at_last_loop (s : List UInt8) (c : Int) (hs : s.length < 4611686018427387904) : ∀ (r : List UInt8) (k : Nat) (o : Int), s.drop k = r →
    iter (cellarerref05_at_b0 s c true) (o, (k : Int)) = some (lastIdx c r k o) := by
  intro r
  induction r with
  | nil =>
    intro k o h
    have := drop_nil h
    rw [iter_inr (t := o)]
    · simp [lastIdx]
    · unfold cellarerref05_at_b0
      simp [show ¬ k < s.length by omega]
  | cons x r ih =>
    intro k o h
    obtain ⟨h1, h2, h3⟩ := drop_cons h 0
    rw [iter_inl (s' := (if (x.toNat : Int) = c then (k : Int) else o, ((k + 1 : Nat) : Int))), ih _ _ h3]
    · simp [lastIdx]
    · unfold cellarerref05_at_b0
      simp only [natlt, h1, decide_true, cond_true, Int.natCast_nonneg, and_self, if_true, Int.toNat_natCast, h2, Bool.cond_decide]
      rw [w64 (by omega) (by omega)]
      by_cases hx : (x.toNat : Int) = c <;> simp [hx]

theorem at_first (s : List UInt8) (c : Int) (hs : s.length < 4611686018427387904) : cellarerref05_at s c false = some (idxByte c s 0) := by
  unfold cellarerref05_at
  rw [show ((0 : Int)) = ((0 : Nat) : Int) from rfl, at_first_loop s c hs s 0 (-1) rfl]
  have key : ∀ (l : List UInt8) (i : Int), 0 ≤ i → idxByte c l i < 0 → idxByte c l i = -1 := by
    intro l
    induction l with
    | nil => intro i _ _; rfl
    | cons x r ih =>
      intro i hi h
      simp only [idxByte] at h ⊢
      split at h
      · omega
      · rename_i hx
        rw [if_neg hx]
        exact ih _ (by omega) h
  simp only [Option.bind_some, Option.some.injEq]
  have := key s 0 (by omega)
  simp
  intro h
  exact (this h).symm

theorem at_last (s : List UInt8) (c : Int) (hs : s.length < 4611686018427387904) : cellarerref05_at s c true = some (lastIdx c s 0 (-1)) := by
  unfold cellarerref05_at
  rw [show ((0 : Int)) = ((0 : Nat) : Int) from rfl, at_last_loop s c hs s 0 (-1) rfl]
  rfl

theorem IndexByte5 (s : List UInt8) (c : Int) (h0 : 0 ≤ c) (h1 : c < 256) : strings_IndexByte s c = some (idxByte c s 0) := by
  unfold strings_IndexByte stringslite_IndexByte
  simp [h0, h1]

theorem lastIdx_snoc (c : Int) (x : UInt8) : ∀ (l : List UInt8) (i o : Int), lastIdx c (l ++ [x]) i o = if (x.toNat : Int) = c then i + l.length else lastIdx c l i o := by
  intro l
  induction l with
  | nil => intro i o; simp [lastIdx]
  | cons y r ih =>
    intro i o
    simp only [List.cons_append, lastIdx, ih, List.length_cons]
    split
    · omega
    · rfl

theorem LastIndex_loop (s : List UInt8) (c : Int) (hs : s.length < 4611686018427387904) : ∀ (k : Nat), k ≤ s.length →
    iter (bytealg_LastIndexByteString_b0 s c) ((k : Int) - 1) = some (if 0 ≤ lastIdx c (s.take k) 0 (-1) then .inl (lastIdx c (s.take k) 0 (-1)) else .inr ()) := by
  intro k
  induction k with
  | zero =>
    intro _
    rw [iter_inr (t := .inr ())]
    · simp [lastIdx]
    · unfold bytealg_LastIndexByteString_b0
      simp
  | succ k ih =>
    intro hk
    have e : s.take (k + 1) = s.take k ++ [s.getD k 0] := by
      rw [List.take_add_one, List.getD_eq_getElem?_getD, List.getElem?_eq_getElem (by omega)]; rfl
    have e1 : ((k + 1 : Nat) : Int) - 1 = (k : Int) := by omega
    rw [e1, e, lastIdx_snoc]
    have hl : (s.take k).length = k := by rw [List.length_take]; omega
    by_cases hx : ((s.getD k 0).toNat : Int) = c
    · rw [iter_inr (t := .inl (k : Int)), if_pos hx, hl]
      · simp
      · unfold bytealg_LastIndexByteString_b0
        simp only [natlt, Int.natCast_nonneg, decide_true, cond_true, show k < s.length by omega, and_self, if_true, Int.toNat_natCast, hx]
    · rw [iter_inl (s' := (k : Int) - 1), ih (by omega)]
      · simp only [hx, if_false]
      · unfold bytealg_LastIndexByteString_b0
        simp only [natlt, Int.natCast_nonneg, decide_true, cond_true, show k < s.length by omega, and_self, if_true, Int.toNat_natCast, hx, decide_false, cond_false]
        rw [w64 (by omega) (by omega)]

theorem lastIdx_neg (c : Int) : ∀ (l : List UInt8) (i : Int), 0 ≤ i → ¬ 0 ≤ lastIdx c l i (-1) → lastIdx c l i (-1) = -1 := by
  have pos : ∀ (l : List UInt8) (i o : Int), 0 ≤ i → 0 ≤ o → 0 ≤ lastIdx c l i o := by
    intro l
    induction l with
    | nil => intro i o _ h; exact h
    | cons x r ih => intro i o hi ho; simp only [lastIdx]; exact ih _ _ (by omega) (by split <;> assumption)
  intro l
  induction l with
  | nil => intro i _ _; rfl
  | cons x r ih =>
    intro i hi h
    simp only [lastIdx] at h ⊢
    by_cases hx : (x.toNat : Int) = c
    · rw [if_pos hx] at h
      exact absurd (pos _ _ _ (by omega) hi) h
    · rw [if_neg hx] at h ⊢
      exact ih _ (by omega) h

theorem LastIndex5 (s : List UInt8) (c : Int) (hs : s.length < 4611686018427387904) : strings_LastIndexByte s c = some (lastIdx c s 0 (-1)) := by
  unfold strings_LastIndexByte bytealg_LastIndexByteString
  rw [w64 (by omega) (by omega), LastIndex_loop s c hs s.length (Nat.le_refl _), List.take_length]
  by_cases h : 0 ≤ lastIdx c s 0 (-1)
  · simp [h]
  · simp [h, lastIdx_neg c s 0 (by omega) h]

/-- A number's digits. -/
def dig (m : Nat) : List UInt8 := if h : m < 10 then [UInt8.ofNat (48 + m)] else dig (m / 10) ++ [UInt8.ofNat (48 + m % 10)]
termination_by m
decreasing_by omega

def digI (n : Int) : List UInt8 := if n < 0 then 45 :: dig n.natAbs else dig n.natAbs

theorem dig_small {m : Nat} (h : m < 10) : dig m = [UInt8.ofNat (48 + m % 10)] := by
  rw [dig, dif_pos h, Nat.mod_eq_of_lt h]

theorem dig_big {m : Nat} (h : ¬ m < 10) : dig m = dig (m / 10) ++ [UInt8.ofNat (48 + m % 10)] := by
  rw [dig, dif_neg h]

theorem dig_length : ∀ (k m : Nat), m < 10 ^ (k + 1) → (dig m).length ≤ k + 1 := by
  intro k
  induction k with
  | zero => intro m h; rw [dig]; simp at h; simp [h]
  | succ k ih =>
    intro m h
    rw [dig]
    split
    · simp
    · rw [List.length_append]
      have := ih (m / 10) (by rw [Nat.div_lt_iff_lt_mul (by omega)]; rw [Nat.pow_succ] at h; exact h)
      simp
      omega

theorem enc_digit (d : Nat) (h : d < 10) : enc ((48 : Int) + (d : Int)) = [UInt8.ofNat (48 + d)] := by
  have : d = 0 ∨ d = 1 ∨ d = 2 ∨ d = 3 ∨ d = 4 ∨ d = 5 ∨ d = 6 ∨ d = 7 ∨ d = 8 ∨ d = 9 := by omega
  rcases this with rfl | rfl | rfl | rfl | rfl | rfl | rfl | rfl | rfl | rfl <;> decide

theorem abs64 {n : Int} (h : -9223372036854775808 ≤ n) (h' : n < 9223372036854775808) (hn : n < 0) : IntKind.wrap IntKind.u64 ((0 : Int) - IntKind.wrap IntKind.u64 n) = ((n.natAbs : Nat) : Int) := by
  simp only [IntKind.wrap, IntKind.signed, IntKind.bits]
  simp
  omega

theorem pos64 {n : Int} (h' : n < 9223372036854775808) (hn : ¬ n < 0) : IntKind.wrap IntKind.u64 n = ((n.natAbs : Nat) : Int) := by
  rw [wu64 (by omega) (by omega)]
  omega

end Go.Cellar
