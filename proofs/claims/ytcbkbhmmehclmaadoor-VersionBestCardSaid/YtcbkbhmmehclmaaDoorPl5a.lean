/- Plain laws of the version functions. No condition. -/
import Derived.Test.YtcbkbhmmehclmaaDoorPl0
import Derived.Test.YtcbkbhmmehclmaaDoorFun5
set_option linter.unusedSimpArgs false
namespace Go.Cellar
open Go

theorem awake5 : cellarerlaw05_awake = some true := by kernel_rfl

/-! ### the first and the last place of a byte -/

theorem idxByte_shift (c : Int) : ∀ (l : List UInt8) (i j : Int), 0 ≤ i → 0 ≤ j → (0 ≤ idxByte c l i ↔ 0 ≤ idxByte c l j) := by
  intro l
  induction l with
  | nil => intro i j _ _; simp [idxByte]
  | cons x r ih =>
    intro i j hi hj
    simp only [idxByte]
    split
    · omega
    · exact ih _ _ (by omega) (by omega)

def lastIdx (c : Int) : List UInt8 → Int → Int → Int
  | [], _, o => o
  | x :: r, i, o => lastIdx c r (i + 1) (if (x.toNat : Int) = c then i else o)

theorem at_first_loop (s : List UInt8) (c : Int) (hs : s.length < 4611686018427387904) : ∀ (r : List UInt8) (k : Nat) (o : Int), s.drop k = r →
    iter (cellarerref05_at_b0 s c false) (o, (k : Int)) = some (if o < 0 then (if idxByte c r k < 0 then o else idxByte c r k) else o) := by
  intro r
  induction r with
  | nil =>
    intro k o h
    have := drop_nil h
    rw [iter_inr (t := o)]
    · simp [idxByte]
    · unfold cellarerref05_at_b0
      simp [show ¬ k < s.length by omega]
  | cons x r ih =>
    intro k o h
    obtain ⟨h1, h2, h3⟩ := drop_cons h 0
    rw [iter_inl (s' := (if (x.toNat : Int) = c ∧ o < 0 then (k : Int) else o, ((k + 1 : Nat) : Int))), ih _ _ h3]
    · simp only [idxByte, Int.natCast_add, Int.cast_ofNat_Int]
      by_cases hx : (x.toNat : Int) = c <;> by_cases ho : o < 0 <;> simp [hx, ho]
      omega
    · unfold cellarerref05_at_b0
      simp only [natlt, h1, decide_true, cond_true, Int.natCast_nonneg, and_self, if_true, Int.toNat_natCast, h2, Bool.cond_decide]
      rw [w64 (by omega) (by omega)]
      by_cases hx : (x.toNat : Int) = c <;> by_cases ho : o < 0 <;> simp [hx, ho]

theorem at_last_loop (s : List UInt8) (c : Int) (hs : s.length < 4611686018427387904) : ∀ (r : List UInt8) (k : Nat) (o : Int), s.drop k = r →
    iter (cellarerref05_at_b0 s c true) (o, (k : Int)) = some (lastIdx c r k o) := by
  intro r
  induction r with
  | nil =>
    intro k o h
    have := drop_nil h
    rw [iter_inr (t := o)]
    · simp [lastIdx]
    · unfold cellarerref05_at_b0
      simp [show ¬ k < s.length by omega]
  | cons x r ih =>
    intro k o h
    obtain ⟨h1, h2, h3⟩ := drop_cons h 0
    rw [iter_inl (s' := (if (x.toNat : Int) = c then (k : Int) else o, ((k + 1 : Nat) : Int))), ih _ _ h3]
    · simp [lastIdx]
    · unfold cellarerref05_at_b0
      simp only [natlt, h1, decide_true, cond_true, Int.natCast_nonneg, and_self, if_true, Int.toNat_natCast, h2, Bool.cond_decide]
      rw [w64 (by omega) (by omega)]
      by_cases hx : (x.toNat : Int) = c <;> simp [hx]

theorem at_first (s : List UInt8) (c : Int) (hs : s.length < 4611686018427387904) : cellarerref05_at s c false = some (idxByte c s 0) := by
  unfold cellarerref05_at
  rw [show ((0 : Int)) = ((0 : Nat) : Int) from rfl, at_first_loop s c hs s 0 (-1) rfl]
  have key : ∀ (l : List UInt8) (i : Int), 0 ≤ i → idxByte c l i < 0 → idxByte c l i = -1 := by
    intro l
    induction l with
    | nil => intro i _ _; rfl
    | cons x r ih =>
      intro i hi h
      simp only [idxByte] at h ⊢
      split at h
      · omega
      · rename_i hx
        rw [if_neg hx]
        exact ih _ (by omega) h
  simp only [Option.bind_some, Option.some.injEq]
  have := key s 0 (by omega)
  simp
  intro h
  exact (this h).symm

theorem at_last (s : List UInt8) (c : Int) (hs : s.length < 4611686018427387904) : cellarerref05_at s c true = some (lastIdx c s 0 (-1)) := by
  unfold cellarerref05_at
  rw [show ((0 : Int)) = ((0 : Nat) : Int) from rfl, at_last_loop s c hs s 0 (-1) rfl]
  rfl

theorem IndexByte5 (s : List UInt8) (c : Int) (h0 : 0 ≤ c) (h1 : c < 256) : strings_IndexByte s c = some (idxByte c s 0) := by
  unfold strings_IndexByte stringslite_IndexByte
  simp [h0, h1]

theorem lastIdx_snoc (c : Int) (x : UInt8) : ∀ (l : List UInt8) (i o : Int), lastIdx c (l ++ [x]) i o = if (x.toNat : Int) = c then i + l.length else lastIdx c l i o := by
  intro l
  induction l with
  | nil => intro i o; simp [lastIdx]
  | cons y r ih =>
    intro i o
    simp only [List.cons_append, lastIdx, ih, List.length_cons]
    split
    · omega
    · rfl

theorem LastIndex_loop (s : List UInt8) (c : Int) (hs : s.length < 4611686018427387904) : ∀ (k : Nat), k ≤ s.length →
    iter (bytealg_LastIndexByteString_b0 s c) ((k : Int) - 1) = some (if 0 ≤ lastIdx c (s.take k) 0 (-1) then .inl (lastIdx c (s.take k) 0 (-1)) else .inr ()) := by
  intro k
  induction k with
  | zero =>
    intro _
    rw [iter_inr (t := .inr ())]
    · simp [lastIdx]
    · unfold bytealg_LastIndexByteString_b0
      simp
  | succ k ih =>
    intro hk
    have e : s.take (k + 1) = s.take k ++ [s.getD k 0] := by
      rw [List.take_add_one, List.getD_eq_getElem?_getD, List.getElem?_eq_getElem (by omega)]; rfl
    have e1 : ((k + 1 : Nat) : Int) - 1 = (k : Int) := by omega
    rw [e1, e, lastIdx_snoc]
    have hl : (s.take k).length = k := by rw [List.length_take]; omega
    by_cases hx : ((s.getD k 0).toNat : Int) = c
    · rw [iter_inr (t := .inl (k : Int)), if_pos hx, hl]
      · simp
      · unfold bytealg_LastIndexByteString_b0
        simp only [natlt, Int.natCast_nonneg, decide_true, cond_true, show k < s.length by omega, and_self, if_true, Int.toNat_natCast, hx]
    · rw [iter_inl (s' := (k : Int) - 1), ih (by omega)]
      · simp only [hx, if_false]
      · unfold bytealg_LastIndexByteString_b0
        simp only [natlt, Int.natCast_nonneg, decide_true, cond_true, show k < s.length by omega, and_self, if_true, Int.toNat_natCast, hx, decide_false, cond_false]
        rw [w64 (by omega) (by omega)]

theorem lastIdx_neg (c : Int) : ∀ (l : List UInt8) (i : Int), 0 ≤ i → ¬ 0 ≤ lastIdx c l i (-1) → lastIdx c l i (-1) = -1 := by
  have pos : ∀ (l : List UInt8) (i o : Int), 0 ≤ i → 0 ≤ o → 0 ≤ lastIdx c l i o := by
    intro l
    induction l with
    | nil => intro i o _ h; exact h
    | cons x r ih => intro i o hi ho; simp only [lastIdx]; exact ih _ _ (by omega) (by split <;> assumption)
  intro l
  induction l with
  | nil => intro i _ _; rfl
  | cons x r ih =>
    intro i hi h
    simp only [lastIdx] at h ⊢
    by_cases hx : (x.toNat : Int) = c
    · rw [if_pos hx] at h
      exact absurd (pos _ _ _ (by omega) hi) h
    · rw [if_neg hx] at h ⊢
      exact ih _ (by omega) h

theorem LastIndex5 (s : List UInt8) (c : Int) (hs : s.length < 4611686018427387904) : strings_LastIndexByte s c = some (lastIdx c s 0 (-1)) := by
  unfold strings_LastIndexByte bytealg_LastIndexByteString
  rw [w64 (by omega) (by omega), LastIndex_loop s c hs s.length (Nat.le_refl _), List.take_length]
  by_cases h : 0 ≤ lastIdx c s 0 (-1)
  · simp [h]
  · simp [h, lastIdx_neg c s 0 (by omega) h]

/-! ### numbers as texts -/

/-- A number's digits. -/
def dig (m : Nat) : List UInt8 := if h : m < 10 then [UInt8.ofNat (48 + m)] else dig (m / 10) ++ [UInt8.ofNat (48 + m % 10)]
termination_by m
decreasing_by omega

def digI (n : Int) : List UInt8 := if n < 0 then 45 :: dig n.natAbs else dig n.natAbs

theorem dig_small {m : Nat} (h : m < 10) : dig m = [UInt8.ofNat (48 + m % 10)] := by
  rw [dig, dif_pos h, Nat.mod_eq_of_lt h]
theorem dig_big {m : Nat} (h : ¬ m < 10) : dig m = dig (m / 10) ++ [UInt8.ofNat (48 + m % 10)] := by
  rw [dig, dif_neg h]

theorem dig_length : ∀ (k m : Nat), m < 10 ^ (k + 1) → (dig m).length ≤ k + 1 := by
  intro k
  induction k with
  | zero => intro m h; rw [dig]; simp at h; simp [h]
  | succ k ih =>
    intro m h
    rw [dig]
    split
    · simp
    · rw [List.length_append]
      have := ih (m / 10) (by rw [Nat.div_lt_iff_lt_mul (by omega)]; rw [Nat.pow_succ] at h; exact h)
      simp
      omega

theorem enc_digit (d : Nat) (h : d < 10) : enc ((48 : Int) + (d : Int)) = [UInt8.ofNat (48 + d)] := by
  have : d = 0 ∨ d = 1 ∨ d = 2 ∨ d = 3 ∨ d = 4 ∨ d = 5 ∨ d = 6 ∨ d = 7 ∨ d = 8 ∨ d = 9 := by omega
  rcases this with rfl | rfl | rfl | rfl | rfl | rfl | rfl | rfl | rfl | rfl <;> decide

theorem refText_loop : ∀ (k m : Nat), m < 10 ^ k → m < 18446744073709551616 → ∀ (t : List UInt8), t.length + k ≤ 140737488355328 →
    iter cellarerref01_Text_b0 ((m : Int), t) = some ((if 0 < m then dig m else []) ++ t) := by
  intro k
  induction k with
  | zero =>
    intro m h _ t ht
    have : m = 0 := by simpa using h
    subst this
    rw [iter_inr (t := t)]
    · simp
    · unfold cellarerref01_Text_b0
      simp
  | succ k ih =>
    intro m h hm t ht
    by_cases h0 : 0 < m
    · have e1 : Int.tmod (m : Int) 10 = ((m % 10 : Nat) : Int) := by rw [Int.tmod_eq_emod_of_nonneg (by omega)]; omega
      have e2 : Int.tdiv (m : Int) 10 = ((m / 10 : Nat) : Int) := by rw [Int.tdiv_eq_ediv_of_nonneg (by omega)]; omega
      rw [iter_inl (s' := (((m / 10 : Nat) : Int), UInt8.ofNat (48 + m % 10) :: t)), ih (m / 10) (by rw [Nat.div_lt_iff_lt_mul (by omega)]; rw [Nat.pow_succ] at h; exact h) (by omega) _ (by simp; omega)]
      · rw [if_pos h0]
        by_cases h10 : m < 10
        · have : m / 10 = 0 := by omega
          rw [dig_small h10, this, if_neg (by omega)]
          rfl
        · rw [dig_big h10, if_pos (by omega), List.append_assoc]
          rfl
      · unfold cellarerref01_Text_b0
        simp only [show (0 : Int) < (m : Int) by omega, decide_true, cond_true, e1, e2]
        rw [wu64 (n := (48 : Int) + ((m % 10 : Nat) : Int)) (by omega) (by omega), w32 (by omega) (by omega), wu64 (n := ((m / 10 : Nat) : Int)) (by omega) (by omega), enc_digit _ (by omega)]
        rw [if_pos (by simp; omega)]
        rfl
    · have : m = 0 := by omega
      subst this
      rw [iter_inr (t := t)]
      · simp
      · unfold cellarerref01_Text_b0
        simp

theorem abs64 {n : Int} (h : -9223372036854775808 ≤ n) (h' : n < 9223372036854775808) (hn : n < 0) : IntKind.wrap IntKind.u64 ((0 : Int) - IntKind.wrap IntKind.u64 n) = ((n.natAbs : Nat) : Int) := by
  simp only [IntKind.wrap, IntKind.signed, IntKind.bits]
  simp
  omega

theorem pos64 {n : Int} (h' : n < 9223372036854775808) (hn : ¬ n < 0) : IntKind.wrap IntKind.u64 n = ((n.natAbs : Nat) : Int) := by
  rw [wu64 (by omega) (by omega)]
  omega

theorem refText_eq (n : Int) (h : -9223372036854775808 ≤ n) (h' : n < 9223372036854775808) : cellarerref01_Text n = some (digI n) := by
  unfold cellarerref01_Text
  have hm : ∀ m : Nat, m ≤ 9223372036854775808 → iter cellarerref01_Text_b0 (IntKind.wrap IntKind.u64 (Int.tdiv (m : Int) (10 : Int)), enc (IntKind.wrap IntKind.i32 (IntKind.wrap IntKind.u64 ((48 : Int) + Int.tmod (m : Int) (10 : Int))))) = some (dig m) := by
    intro m hm
    have e1 : Int.tmod (m : Int) 10 = ((m % 10 : Nat) : Int) := by rw [Int.tmod_eq_emod_of_nonneg (by omega)]; omega
    have e2 : Int.tdiv (m : Int) 10 = ((m / 10 : Nat) : Int) := by rw [Int.tdiv_eq_ediv_of_nonneg (by omega)]; omega
    rw [e1, e2, wu64 (n := (48 : Int) + ((m % 10 : Nat) : Int)) (by omega) (by omega), w32 (by omega) (by omega), wu64 (n := ((m / 10 : Nat) : Int)) (by omega) (by omega), enc_digit _ (by omega),
      refText_loop 20 (m / 10) (by omega) (by omega) _ (by simp)]
    by_cases h10 : m < 10
    · have : m / 10 = 0 := by omega
      rw [dig_small h10, this, if_neg (by omega)]
      rfl
    · rw [dig_big h10, if_pos (by omega)]
  by_cases hn : n < 0
  · simp only [hn, decide_true, cond_true, Option.bind_some]
    rw [abs64 h h' hn, hm _ (by omega)]
    have := dig_length 19 n.natAbs (by omega)
    simp only [Option.bind_some, List.length_cons, List.length_nil]
    rw [if_pos (by omega)]
    simp [digI, hn]
  · simp only [hn, decide_false, cond_false, Option.bind_some]
    rw [pos64 h' hn, hm _ (by omega)]
    simp [digI, hn]

theorem bitsText_loop : ∀ (k m : Nat) (a : List Int), k ≤ 20 → m < 10 ^ k → m < 18446744073709551616 → a.length = 20 → ∃ (j : Nat) (a' : List Int),
    iter bits_Text_b0 ((m : Int), (k : Int), a) = some ((j : Int), a') ∧ a'.length = 20 ∧ j ≤ k ∧
      (a'.drop j).map (fun (n : Int) => UInt8.ofNat (Int.toNat n)) = (if k = 20 ∨ 0 < m then dig m else []) ++ (a.drop k).map (fun (n : Int) => UInt8.ofNat (Int.toNat n)) := by
  intro k
  induction k with
  | zero =>
    intro m a _ h _ ha
    have : m = 0 := by simpa using h
    subst this
    refine ⟨0, a, ?_, ha, Nat.le_refl _, by simp⟩
    rw [iter_inr (t := (((0 : Nat) : Int), a))]
    unfold bits_Text_b0
    simp
  | succ k ih =>
    intro m a hk h hm ha
    by_cases h0 : k + 1 = 20 ∨ 0 < m
    · have e1 : Int.tmod (m : Int) 10 = ((m % 10 : Nat) : Int) := by rw [Int.tmod_eq_emod_of_nonneg (by omega)]; omega
      have e2 : Int.tdiv (m : Int) 10 = ((m / 10 : Nat) : Int) := by rw [Int.tdiv_eq_ediv_of_nonneg (by omega)]; omega
      have e3 : ((k + 1 : Nat) : Int) - 1 = (k : Int) := by omega
      obtain ⟨j, a', h1, h2, h3, h4⟩ := ih (m / 10) (a.set k ((48 : Int) + ((m % 10 : Nat) : Int))) (by omega) (by rw [Nat.div_lt_iff_lt_mul (by omega)]; rw [Nat.pow_succ] at h; exact h) (by omega) (by simp [ha])
      refine ⟨j, a', ?_, h2, by omega, ?_⟩
      · rw [iter_inl (s' := (((m / 10 : Nat) : Int), (k : Int), a.set k ((48 : Int) + ((m % 10 : Nat) : Int)))), h1]
        unfold bits_Text_b0
        have hc : (bif decide (((k + 1 : Nat) : Int) = 20) then some (Sum.inl ()) else bif decide ((0 : Int) < (m : Int)) then some (Sum.inl ()) else some (Sum.inr ())) = (some (Sum.inl ()) : Option (Unit ⊕ Unit)) := by
          rcases h0 with h0 | h0
          · simp [show (((k + 1 : Nat) : Int) = 20) by omega]
          · simp [h0]
        simp only [hc, Option.bind_some, Sum.elim_inl, e3, e1, e2]
        rw [w64 (n := (k : Int)) (by omega) (by omega), wu64 (n := ((m / 10 : Nat) : Int)) (by omega) (by omega), wu8 (n := ((m % 10 : Nat) : Int)) (by omega) (by omega), wu8 (n := (48 : Int) + ((m % 10 : Nat) : Int)) (by omega) (by omega)]
        rw [if_pos (by simp [ha]; omega), if_pos (by simp [ha]; omega), Int.toNat_natCast]
      · rw [h4, if_pos h0]
        have e5 : (a.set k ((48 : Int) + ((m % 10 : Nat) : Int))).drop k = ((48 : Int) + ((m % 10 : Nat) : Int)) :: a.drop (k + 1) := by
          rw [List.drop_eq_getElem_cons (by simp; omega), List.getElem_set_self, List.drop_set_of_lt (by omega)]
        have e6 : Int.toNat ((48 : Int) + ((m % 10 : Nat) : Int)) = 48 + m % 10 := by omega
        rw [e5, List.map_cons, e6]
        by_cases h10 : m < 10
        · rw [dig_small h10, if_neg (by omega)]
          rfl
        · rw [dig_big h10, if_pos (by omega), List.append_assoc]
          rfl
    · have hm0 : m = 0 := by omega
      subst hm0
      refine ⟨k + 1, a, ?_, ha, Nat.le_refl _, by rw [if_neg h0]; rfl⟩
      rw [iter_inr (t := (((k + 1 : Nat) : Int), a))]
      unfold bits_Text_b0
      have e : decide (((k + 1 : Nat) : Int) = 20) = false := by simp; omega
      simp only [e, cond_false]
      rfl

theorem bitsText_eq (n : Int) (h : -9223372036854775808 ≤ n) (h' : n < 9223372036854775808) : bits_Text n = some (digI n) := by
  unfold bits_Text
  have hm : ∀ m : Nat, m ≤ 9223372036854775808 → ∃ (j : Nat) (a' : List Int), iter bits_Text_b0 ((m : Int), (20 : Int), List.replicate 20 (0 : Int)) = some ((j : Int), a') ∧ a'.length = 20 ∧ j ≤ 20 ∧
      (a'.drop j).map (fun (n : Int) => UInt8.ofNat (Int.toNat n)) = dig m := by
    intro m hm
    obtain ⟨j, a', h1, h2, h3, h4⟩ := bitsText_loop 20 m (List.replicate 20 (0 : Int)) (by omega) (by omega) (by omega) (by simp)
    refine ⟨j, a', h1, h2, h3, ?_⟩
    rw [h4]
    simp
  by_cases hn : n < 0
  · simp only [hn, decide_true, cond_true, Option.bind_some]
    rw [abs64 h h' hn]
    obtain ⟨j, a', h1, h2, h3, h4⟩ := hm n.natAbs (by omega)
    rw [h1]
    simp only [Option.bind_some, Int.toNat_natCast]
    have e : a'.take 20 = a' := List.take_of_length_le (by omega)
    rw [if_pos (by refine ⟨h2, ?_⟩; omega), e, h4]
    have := dig_length 19 n.natAbs (by omega)
    rw [if_pos (by simp; omega)]
    simp [digI, hn]
  · simp only [hn, decide_false, cond_false, Option.bind_some]
    rw [pos64 h' hn]
    obtain ⟨j, a', h1, h2, h3, h4⟩ := hm n.natAbs (by omega)
    rw [h1]
    simp only [Option.bind_some, Int.toNat_natCast]
    have e : a'.take 20 = a' := List.take_of_length_le (by omega)
    rw [if_pos (by refine ⟨h2, ?_⟩; omega), e, h4]
    simp [digI, hn]

end Go.Cellar
