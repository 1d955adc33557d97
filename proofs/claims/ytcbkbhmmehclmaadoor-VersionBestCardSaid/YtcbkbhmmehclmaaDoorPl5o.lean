/- The order of two texts, by plain lists. No condition. -/
import Derived.Test.YtcbkbhmmehclmaaDoorPl5a
set_option linter.unusedSimpArgs false
namespace Go.Cellar
open Go

def isD (c : UInt8) : Bool := decide (48 ≤ c.toNat) && decide (c.toNat ≤ 57)
def isL (c : UInt8) : Bool := (decide (97 ≤ c.toNat) && decide (c.toNat ≤ 122)) || (decide (65 ≤ c.toNat) && decide (c.toNat ≤ 90))
def wt (c : UInt8) : Int := if c.toNat = 126 then -1 else if isL c then c.toNat else c.toNat + 256

theorem le48 (n : Nat) : ((48 : Int) ≤ (n : Int)) = (48 ≤ n) := propext (by omega)
theorem le57 (n : Nat) : ((n : Int) ≤ (57 : Int)) = (n ≤ 57) := propext (by omega)
theorem le97 (n : Nat) : ((97 : Int) ≤ (n : Int)) = (97 ≤ n) := propext (by omega)
theorem le122 (n : Nat) : ((n : Int) ≤ (122 : Int)) = (n ≤ 122) := propext (by omega)
theorem le65 (n : Nat) : ((65 : Int) ≤ (n : Int)) = (65 ≤ n) := propext (by omega)
theorem le90 (n : Nat) : ((n : Int) ≤ (90 : Int)) = (n ≤ 90) := propext (by omega)

theorem digit_eq (c : UInt8) : version_digit (c.toNat : Int) = some (isD c) := by
  unfold version_digit isD
  simp only [le48, le57]
  cases decide (48 ≤ c.toNat) <;> simp
theorem Digit_eq (c : UInt8) : cellarerref05_Digit (c.toNat : Int) = some (isD c) := by
  unfold cellarerref05_Digit isD
  simp only [le48, le57]
  cases decide (48 ≤ c.toNat) <;> simp
theorem letter_eq (c : UInt8) : version_letter (c.toNat : Int) = some (isL c) := by
  unfold version_letter isL
  simp only [le97, le122, le65, le90]
  cases decide (97 ≤ c.toNat) <;> cases decide (c.toNat ≤ 122) <;> cases decide (65 ≤ c.toNat) <;> simp
theorem Letter_eq (c : UInt8) : cellarerref05_Letter (c.toNat : Int) = some (isL c) := by
  unfold cellarerref05_Letter isL
  simp only [le97, le122, le65, le90]
  cases decide (97 ≤ c.toNat) <;> cases decide (c.toNat ≤ 122) <;> cases decide (65 ≤ c.toNat) <;> simp

theorem wt_ne (c : UInt8) : wt c ≠ 0 := by
  unfold wt isL
  split
  · omega
  · split
    · rename_i h; simp at h; omega
    · omega

theorem refWeight_eq (c : UInt8) : cellarerref05_weight (c.toNat : Int) = some (wt c) := by
  have h := u8lt c
  unfold cellarerref05_weight wt
  rw [Letter_eq]
  rw [w64 (n := (c.toNat : Int)) (by omega) (by omega), w64 (n := (256 : Int) + (c.toNat : Int)) (by omega) (by omega)]
  by_cases h1 : c.toNat = 126
  · simp [h1]
  · have : ¬ ((c.toNat : Int) = 126) := by omega
    cases h2 : isL c <;> simp [h1, h2, this]
    omega

/-- What stands at a place weighs. -/
def wtAt : List UInt8 → Int
  | [] => 0
  | c :: _ => if isD c then 0 else wt c

theorem weight_eq (s : List UInt8) (k : Nat) : version_weight s (k : Int) = some (wtAt (s.drop k)) := by
  unfold version_weight
  rcases hd : s.drop k with _ | ⟨c, r⟩
  · have := drop_nil hd
    simp [wtAt, this]
  · obtain ⟨h1, h2, h3⟩ := drop_cons hd 0
    have h := u8lt c
    have hn : ¬ ((s.length : Int) ≤ (k : Int)) := by omega
    simp only [hn, decide_false, cond_false, Int.natCast_nonneg, true_and, natlt, h1, if_true, Int.toNat_natCast, h2, digit_eq, letter_eq, Option.bind_some, wtAt, wt]
    rw [w64 (n := (c.toNat : Int)) (by omega) (by omega), w64 (n := (c.toNat : Int) + 256) (by omega) (by omega)]
    cases isD c
    · by_cases h4 : c.toNat = 126
      · simp [h4]
      · have : ¬ ((c.toNat : Int) = 126) := by omega
        cases isL c <;> simp [h4, this]
    · simp

theorem cmpInt_eq (x y : Int) : cmp_Compare_int_ x y = some (if x < y then -1 else if y < x then 1 else 0) := by
  unfold cmp_Compare_int_ cmp_isNaN_int_
  by_cases h : x < y <;> by_cases h' : y < x <;> simp [h, h']

/-- Two texts, by the bytes' order. -/
def cmpS (x y : List UInt8) : Int := if Op.bytesLess x y then -1 else if x = y then 0 else 1

theorem cmpString_eq (x y : List UInt8) : cmp_Compare_string_ x y = some (cmpS x y) := by
  unfold cmp_Compare_string_ cmp_isNaN_string_ cmpS
  cases h : Op.bytesLess x y <;> by_cases h' : x = y <;> simp [h, h']

/-! ### streams of numbers, with noughts behind -/

def cmpL (xs ys : List Int) : Int :=
  if xs = [] ∧ ys = [] then 0 else
    if xs.headD 0 < ys.headD 0 then -1 else if ys.headD 0 < xs.headD 0 then 1 else cmpL xs.tail ys.tail
termination_by xs.length + ys.length
decreasing_by
  rename_i h _ _
  cases xs with
  | nil => cases ys with
    | nil => simp at h
    | cons y ys => simp
  | cons x xs => simp; omega

theorem cmpL_step (xs ys : List Int) : cmpL xs ys = if xs.headD 0 < ys.headD 0 then -1 else if ys.headD 0 < xs.headD 0 then 1 else cmpL xs.tail ys.tail := by
  by_cases h : xs = [] ∧ ys = []
  · obtain ⟨rfl, rfl⟩ := h
    simp
  · conv => lhs; rw [cmpL, if_neg h]

theorem cmpL_nil : cmpL [] [] = 0 := by rw [cmpL]; simp

theorem cmpL_cons (x y : Int) (xs ys : List Int) : cmpL (x :: xs) (y :: ys) = if x < y then -1 else if y < x then 1 else cmpL xs ys := by
  rw [cmpL_step]; rfl

theorem cmpL_self : ∀ (xs : List Int), cmpL xs xs = 0 := by
  intro xs
  induction xs with
  | nil => exact cmpL_nil
  | cons x xs ih => rw [cmpL_cons]; simp [ih]

theorem cmpL_swap : ∀ (n : Nat) (xs ys : List Int), xs.length + ys.length ≤ n → cmpL ys xs = - cmpL xs ys := by
  intro n
  induction n with
  | zero =>
    intro xs ys h
    have h1 : xs = [] := List.eq_nil_of_length_eq_zero (by omega)
    have h2 : ys = [] := List.eq_nil_of_length_eq_zero (by omega)
    subst h1; subst h2
    rw [cmpL_nil]; rfl
  | succ n ih =>
    intro xs ys h
    by_cases h0 : xs.length + ys.length ≤ n
    · exact ih _ _ h0
    · rw [cmpL_step ys xs, cmpL_step xs ys]
      have := ih xs.tail ys.tail (by simp; omega)
      generalize xs.headD 0 = x at *
      generalize ys.headD 0 = y at *
      generalize cmpL xs.tail ys.tail = a at *
      generalize cmpL ys.tail xs.tail = b at *
      split <;> split <;> (try split) <;> omega

theorem cmpL_range : ∀ (n : Nat) (xs ys : List Int), xs.length + ys.length ≤ n → cmpL xs ys = -1 ∨ cmpL xs ys = 0 ∨ cmpL xs ys = 1 := by
  intro n
  induction n with
  | zero =>
    intro xs ys h
    have h1 : xs = [] := List.eq_nil_of_length_eq_zero (by omega)
    have h2 : ys = [] := List.eq_nil_of_length_eq_zero (by omega)
    subst h1; subst h2
    rw [cmpL_nil]; simp
  | succ n ih =>
    intro xs ys h
    by_cases h0 : xs.length + ys.length ≤ n
    · exact ih _ _ h0
    · rw [cmpL_step xs ys]
      have := ih xs.tail ys.tail (by simp; omega)
      split
      · simp
      · split
        · simp
        · exact this

/-- Of three: how they stand. -/
theorem cmpL_three : ∀ (n : Nat) (xs ys zs : List Int), xs.length + ys.length + zs.length ≤ n →
    (cmpL xs ys ≤ 0 → cmpL ys zs ≤ 0 → cmpL xs zs ≤ 0 ∧ ((cmpL xs ys < 0 ∨ cmpL ys zs < 0) → cmpL xs zs < 0)) ∧ (cmpL xs ys = 0 → cmpL ys zs = cmpL xs zs) := by
  intro n
  induction n with
  | zero =>
    intro xs ys zs h
    have h1 : xs = [] := List.eq_nil_of_length_eq_zero (by omega)
    have h2 : ys = [] := List.eq_nil_of_length_eq_zero (by omega)
    have h3 : zs = [] := List.eq_nil_of_length_eq_zero (by omega)
    subst h1; subst h2; subst h3
    rw [cmpL_nil]; simp
  | succ n ih =>
    intro xs ys zs h
    by_cases h0 : xs.length + ys.length + zs.length ≤ n
    · exact ih _ _ _ h0
    · rw [cmpL_step xs ys, cmpL_step ys zs, cmpL_step xs zs]
      obtain ⟨h1, h2⟩ := ih xs.tail ys.tail zs.tail (by simp; omega)
      generalize xs.headD 0 = x at *
      generalize ys.headD 0 = y at *
      generalize zs.headD 0 = z at *
      generalize cmpL xs.tail ys.tail = a at *
      generalize cmpL ys.tail zs.tail = b at *
      generalize cmpL xs.tail zs.tail = c at *
      constructor
      · intro ha hb
        constructor
        · split at ha <;> split at hb <;> (try split at ha) <;> (try split at hb) <;> split <;> (try split) <;> omega
        · intro hc
          split at ha <;> split at hb <;> (try split at ha) <;> (try split at hb) <;> split at hc <;> (try split at hc) <;> split <;> (try split) <;> omega
      · intro ha
        split at ha
        · omega
        · split at ha
          · omega
          · have e : x = y := by omega
            subst e
            rw [h2 ha]

end Go.Cellar
