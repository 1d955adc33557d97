/- The order of two texts, by plain lists. No condition. -/
import Derived.Test.YtapfjjbgcfnnmaaDoorPl20a
set_option linter.unusedSimpArgs false
set_option linter.unusedVariables false
set_option maxRecDepth 4000
namespace Go.Cellar
open Go

def isD (c : UInt8) : Bool := decide (48 ≤ c.toNat) && decide (c.toNat ≤ 57)

def isL (c : UInt8) : Bool := (decide (97 ≤ c.toNat) && decide (c.toNat ≤ 122)) || (decide (65 ≤ c.toNat) && decide (c.toNat ≤ 90))

def wt (c : UInt8) : Int := if c.toNat = 126 then -1 else if isL c then c.toNat else c.toNat + 256

theorem le48 (n : Nat) : ((48 : Int) ≤ (n : Int)) = (48 ≤ n) := propext (by omega)

theorem le57 (n : Nat) : ((n : Int) ≤ (57 : Int)) = (n ≤ 57) := propext (by omega)

theorem le97 (n : Nat) : ((97 : Int) ≤ (n : Int)) = (97 ≤ n) := propext (by omega)

theorem le122 (n : Nat) : ((n : Int) ≤ (122 : Int)) = (n ≤ 122) := propext (by omega)

theorem le65 (n : Nat) : ((65 : Int) ≤ (n : Int)) = (65 ≤ n) := propext (by omega)

theorem le90 (n : Nat) : ((n : Int) ≤ (90 : Int)) = (n ≤ 90) := propext (by omega)

theorem digit_eq (c : UInt8) : version_digit (c.toNat : Int) = some (isD c) := by
  unfold version_digit isD
  simp only [le48, le57]
  cases decide (48 ≤ c.toNat) <;> simp

theorem Digit_eq (c : UInt8) : cellarerref05_Digit (c.toNat : Int) = some (isD c) := by
  unfold cellarerref05_Digit isD
  simp only [le48, le57]
  cases decide (48 ≤ c.toNat) <;> simp

theorem letter_eq (c : UInt8) : version_letter (c.toNat : Int) = some (isL c) := by
  unfold version_letter isL
  simp only [le97, le122, le65, le90]
  cases decide (97 ≤ c.toNat) <;> cases decide (c.toNat ≤ 122) <;> cases decide (65 ≤ c.toNat) <;> simp

theorem Letter_eq (c : UInt8) : cellarerref05_Letter (c.toNat : Int) = some (isL c) := by
  unfold cellarerref05_Letter isL
  simp only [le97, le122, le65, le90]
  cases decide (97 ≤ c.toNat) <;> cases decide (c.toNat ≤ 122) <;> cases decide (65 ≤ c.toNat) <;> simp

theorem wt_ne (c : UInt8) : wt c ≠ 0 := by
  unfold wt isL
  split
  · omega
  · split
    · rename_i h; simp at h; omega
    · omega

theorem refWeight_eq (c : UInt8) : cellarerref05_weight (c.toNat : Int) = some (wt c) := by
  have h := u8lt c
  unfold cellarerref05_weight wt
  rw [Letter_eq]
  rw [w64 (n := (c.toNat : Int)) (by omega) (by omega), w64 (n := (256 : Int) + (c.toNat : Int)) (by omega) (by omega)]
  by_cases h1 : c.toNat = 126
  · simp [h1]
  · have : ¬ ((c.toNat : Int) = 126) := by omega
    cases h2 : isL c <;> simp [h1, h2, this]
    omega

/-- What stands at a place weighs. -/
def wtAt : List UInt8 → Int
  | [] => 0
  | c :: _ => if isD c then 0 else wt c

theorem weight_eq (s : List UInt8) (k : Nat) : version_weight s (k : Int) = some (wtAt (s.drop k)) := by
  unfold version_weight
  rcases hd : s.drop k with _ | ⟨c, r⟩
  · have := drop_nil hd
    simp [wtAt, this]
  · obtain ⟨h1, h2, h3⟩ := drop_cons hd 0
    have h := u8lt c
    have hn : ¬ ((s.length : Int) ≤ (k : Int)) := by omega
    simp only [hn, decide_false, cond_false, Int.natCast_nonneg, true_and, natlt, h1, if_true, Int.toNat_natCast, h2, digit_eq, letter_eq, Option.bind_some, wtAt, wt]
    rw [w64 (n := (c.toNat : Int)) (by omega) (by omega), w64 (n := (c.toNat : Int) + 256) (by omega) (by omega)]
    cases isD c
    · by_cases h4 : c.toNat = 126
      · simp [h4]
      · have : ¬ ((c.toNat : Int) = 126) := by omega
        cases isL c <;> simp [h4, this]
    · simp

theorem cmpInt_eq (x y : Int) : cmp_Compare_int_ x y = some (if x < y then -1 else if y < x then 1 else 0) := by
  unfold cmp_Compare_int_ cmp_isNaN_int_
  by_cases h : x < y <;> by_cases h' : y < x <;> simp [h, h']

/-- Two texts, by the bytes' order. -/
def cmpS (x y : List UInt8) : Int := if Op.bytesLess x y then -1 else if x = y then 0 else 1

theorem cmpString_eq (x y : List UInt8) : cmp_Compare_string_ x y = some (cmpS x y) := by
  unfold cmp_Compare_string_ cmp_isNaN_string_ cmpS
  cases h : Op.bytesLess x y <;> by_cases h' : x = y <;> simp [h, h']

def cmpL (xs ys : List Int) : Int :=
  if xs = [] ∧ ys = [] then 0 else
    if xs.headD 0 < ys.headD 0 then -1 else if ys.headD 0 < xs.headD 0 then 1 else cmpL xs.tail ys.tail
termination_by xs.length + ys.length
decreasing_by
  rename_i h _ _
  cases xs with
  | nil => cases ys with
    | nil => simp at h
    | cons y ys => simp
  | cons x xs => simp; omega

theorem cmpL_step (xs ys : List Int) : cmpL xs ys = if xs.headD 0 < ys.headD 0 then -1 else if ys.headD 0 < xs.headD 0 then 1 else cmpL xs.tail ys.tail := by
  by_cases h : xs = [] ∧ ys = []
  · obtain ⟨rfl, rfl⟩ := h
    simp
  · conv => lhs; rw [cmpL, if_neg h]

theorem cmpL_nil : cmpL [] [] = 0 := by rw [cmpL]; simp

theorem cmpL_cons (x y : Int) (xs ys : List Int) : cmpL (x :: xs) (y :: ys) = if x < y then -1 else if y < x then 1 else cmpL xs ys := by
  rw [cmpL_step]; rfl

theorem cmpL_self : ∀ (xs : List Int), cmpL xs xs = 0 := by
  intro xs
  induction xs with
  | nil => exact cmpL_nil
  | cons x xs ih => rw [cmpL_cons]; simp [ih]

theorem cmpL_swap : ∀ (n : Nat) (xs ys : List Int), xs.length + ys.length ≤ n → cmpL ys xs = - cmpL xs ys := by
  intro n
  induction n with
  | zero =>
    intro xs ys h
    have h1 : xs = [] := List.eq_nil_of_length_eq_zero (by omega)
    have h2 : ys = [] := List.eq_nil_of_length_eq_zero (by omega)
    subst h1; subst h2
    rw [cmpL_nil]; rfl
  | succ n ih =>
    intro xs ys h
    by_cases h0 : xs.length + ys.length ≤ n
    · exact ih _ _ h0
    · rw [cmpL_step ys xs, cmpL_step xs ys]
      have := ih xs.tail ys.tail (by simp; omega)
      generalize xs.headD 0 = x at *
      generalize ys.headD 0 = y at *
      generalize cmpL xs.tail ys.tail = a at *
      generalize cmpL ys.tail xs.tail = b at *
      split <;> split <;> (try split) <;> omega

theorem cmpL_range : ∀ (n : Nat) (xs ys : List Int), xs.length + ys.length ≤ n → cmpL xs ys = -1 ∨ cmpL xs ys = 0 ∨ cmpL xs ys = 1 := by
  intro n
  induction n with
  | zero =>
    intro xs ys h
    have h1 : xs = [] := List.eq_nil_of_length_eq_zero (by omega)
    have h2 : ys = [] := List.eq_nil_of_length_eq_zero (by omega)
    subst h1; subst h2
    rw [cmpL_nil]; simp
  | succ n ih =>
    intro xs ys h
    by_cases h0 : xs.length + ys.length ≤ n
    · exact ih _ _ h0
    · rw [cmpL_step xs ys]
      have := ih xs.tail ys.tail (by simp; omega)
      split
      · simp
      · split
        · simp
        · exact this

/-- Of three: how they stand. -/
theorem cmpL_three : ∀ (n : Nat) (xs ys zs : List Int), xs.length + ys.length + zs.length ≤ n →
    (cmpL xs ys ≤ 0 → cmpL ys zs ≤ 0 → cmpL xs zs ≤ 0 ∧ ((cmpL xs ys < 0 ∨ cmpL ys zs < 0) → cmpL xs zs < 0)) ∧ (cmpL xs ys = 0 → cmpL ys zs = cmpL xs zs) := by
  intro n
  induction n with
  | zero =>
    intro xs ys zs h
    have h1 : xs = [] := List.eq_nil_of_length_eq_zero (by omega)
    have h2 : ys = [] := List.eq_nil_of_length_eq_zero (by omega)
    have h3 : zs = [] := List.eq_nil_of_length_eq_zero (by omega)
    subst h1; subst h2; subst h3
    rw [cmpL_nil]; simp
  | succ n ih =>
    intro xs ys zs h
    by_cases h0 : xs.length + ys.length + zs.length ≤ n
    · exact ih _ _ _ h0
    · rw [cmpL_step xs ys, cmpL_step ys zs, cmpL_step xs zs]
      obtain ⟨h1, h2⟩ := ih xs.tail ys.tail zs.tail (by simp; omega)
      generalize xs.headD 0 = x at *
      generalize ys.headD 0 = y at *
      generalize zs.headD 0 = z at *
      generalize cmpL xs.tail ys.tail = a at *
      generalize cmpL ys.tail zs.tail = b at *
      generalize cmpL xs.tail zs.tail = c at *
      constructor
      · intro ha hb
        constructor
        · split at ha <;> split at hb <;> (try split at ha) <;> (try split at hb) <;> split <;> (try split) <;> omega
        · intro hc
          split at ha <;> split at hb <;> (try split at ha) <;> (try split at hb) <;> split at hc <;> (try split at hc) <;> split <;> (try split) <;> omega
      · intro ha
        split at ha
        · omega
        · split at ha
          · omega
          · have e : x = y := by omega
            subst e
            rw [h2 ha]

def nd (c : UInt8) : Bool := !isD c

def word (a : List UInt8) : List UInt8 := a.takeWhile nd

def numb (a : List UInt8) : List UInt8 := ((a.dropWhile nd).takeWhile isD).dropWhile (fun c => decide (c.toNat = 48))

def rest (a : List UInt8) : List UInt8 := (a.dropWhile nd).dropWhile isD

theorem dropWhile_le {α : Type} (p : α → Bool) (l : List α) : (l.dropWhile p).length ≤ l.length := (List.dropWhile_sublist p).length_le

theorem rest_lt {a : List UInt8} (h : a ≠ []) : (rest a).length < a.length := by
  cases a with
  | nil => exact absurd rfl h
  | cons c t =>
    unfold rest
    by_cases hc : isD c
    · have : (c :: t).dropWhile nd = c :: t := by simp [List.dropWhile_cons, nd, hc]
      rw [this, List.dropWhile_cons, if_pos hc]
      have := dropWhile_le isD t
      simp; omega
    · have : (c :: t).dropWhile nd = t.dropWhile nd := by simp [List.dropWhile_cons, nd, hc]
      rw [this]
      have h1 := dropWhile_le nd t
      have h2 := dropWhile_le isD (t.dropWhile nd)
      simp; omega

def num (n : List UInt8) : List Int := (n.length : Int) :: n.map fun c => (c.toNat : Int)

def key (a : List UInt8) : List Int := if h : a = [] then [] else (word a).map wt ++ 0 :: (num (numb a) ++ key (rest a))
termination_by a.length
decreasing_by exact rest_lt h

def keyU (a : List UInt8) : List Int := (word a).map wt ++ 0 :: (num (numb a) ++ key (rest a))

def ordC (a b : List UInt8) : Int := cmpL (key a) (key b)

def wordsC (p q : List UInt8) : Int := cmpL (p.map wt) (q.map wt)

def numC (n m : List UInt8) : Int := if n.length < m.length then -1 else if m.length < n.length then 1 else cmpS n m

theorem cmpL_pad (ys : List Int) : cmpL [0, 0] ys = cmpL [] ys := by
  rw [cmpL_step [0, 0] ys, cmpL_step [] ys]
  simp only [List.headD_cons, List.headD_nil, List.tail_cons, List.tail_nil]
  rw [cmpL_step [0] ys.tail, cmpL_step [] ys.tail]
  simp only [List.headD_cons, List.headD_nil, List.tail_cons, List.tail_nil]
  rfl

theorem cmpL_pad' (ys : List Int) : cmpL ys [0, 0] = cmpL ys [] := by
  rw [cmpL_swap _ [0, 0] ys (Nat.le_refl _), cmpL_swap _ [] ys (Nat.le_refl _), cmpL_pad]

theorem keyU_left (a : List UInt8) (ys : List Int) : cmpL (key a) ys = cmpL (keyU a) ys := by
  by_cases h : a = []
  · subst h
    rw [key, dif_pos rfl, ← cmpL_pad]
    congr 1
    rw [keyU, show rest [] = [] from rfl, key, dif_pos rfl]
    rfl
  · rw [key, dif_neg h, keyU]

theorem keyU_right (a : List UInt8) (ys : List Int) : cmpL ys (key a) = cmpL ys (keyU a) := by
  rw [cmpL_swap _ (key a) ys (Nat.le_refl _), cmpL_swap _ (keyU a) ys (Nat.le_refl _), keyU_left]

theorem words_key : ∀ (p q : List UInt8) (K L : List Int), cmpL (p.map wt ++ 0 :: K) (q.map wt ++ 0 :: L) = if wordsC p q ≠ 0 then wordsC p q else cmpL K L := by
  intro p
  induction p with
  | nil =>
    intro q K L
    cases q with
    | nil => simp [wordsC, cmpL_nil, cmpL_cons]
    | cons y q =>
      have := wt_ne y
      simp only [wordsC, List.map_nil, List.nil_append, List.map_cons, List.cons_append, cmpL_cons]
      rw [cmpL_step [] (wt y :: _)]
      simp only [List.headD_nil, List.headD_cons]
      by_cases h : 0 < wt y
      · simp [h]
      · have : wt y < 0 := by omega
        simp [h, this]
  | cons x p ih =>
    intro q K L
    cases q with
    | nil =>
      have := wt_ne x
      simp only [wordsC, List.map_nil, List.nil_append, List.map_cons, List.cons_append, cmpL_cons]
      rw [cmpL_step (wt x :: _) []]
      simp only [List.headD_nil, List.headD_cons]
      by_cases h : wt x < 0
      · simp [h]
      · have : 0 < wt x := by omega
        simp [h, this]
    | cons y q =>
      have := ih q K L
      simp only [wordsC, List.map_cons, List.cons_append, cmpL_cons] at this ⊢
      rw [this]
      split
      · simp
      · split
        · simp
        · rfl

theorem words_len : ∀ (p q : List UInt8), wordsC p q = 0 → p.length = q.length := by
  intro p
  induction p with
  | nil =>
    intro q h
    cases q with
    | nil => rfl
    | cons y q =>
      have := wt_ne y
      simp only [wordsC, List.map_nil, List.map_cons] at h
      rw [cmpL_step] at h
      simp only [List.headD_nil, List.headD_cons] at h
      by_cases h1 : wt y < 0
      · simp [h1, show ¬ 0 < wt y by omega] at h
      · simp [h1, show 0 < wt y by omega] at h
  | cons x p ih =>
    intro q h
    cases q with
    | nil =>
      have := wt_ne x
      simp only [wordsC, List.map_nil, List.map_cons] at h
      rw [cmpL_step] at h
      simp only [List.headD_nil, List.headD_cons] at h
      by_cases h1 : wt x < 0
      · simp [h1, show ¬ 0 < wt x by omega] at h
      · simp [h1, show 0 < wt x by omega] at h
    | cons y q =>
      simp only [wordsC, List.map_cons, cmpL_cons] at h
      split at h
      · omega
      · split at h
        · omega
        · simp [ih q h]

theorem cmpS_cons (x y : UInt8) (n m : List UInt8) : cmpS (x :: n) (y :: m) = if x.toNat < y.toNat then -1 else if y.toNat < x.toNat then 1 else cmpS n m := by
  unfold cmpS
  simp only [Op.bytesLess]
  by_cases h : x.toNat < y.toNat
  · have : x < y := UInt8.lt_iff_toNat_lt.mpr h
    simp [h, this]
  · have h1 : ¬ x < y := fun c => h (UInt8.lt_iff_toNat_lt.mp c)
    by_cases h2 : y.toNat < x.toNat
    · have h3 : x ≠ y := fun c => by subst c; omega
      simp [h, h1, h2, h3]
    · have h3 : x = y := UInt8.toNat_inj.mp (by omega)
      subst h3
      simp

theorem bytes_key : ∀ (n m : List UInt8) (K L : List Int), n.length = m.length → cmpL (n.map (fun c => (c.toNat : Int)) ++ K) (m.map (fun c => (c.toNat : Int)) ++ L) = if cmpS n m ≠ 0 then cmpS n m else cmpL K L := by
  intro n
  induction n with
  | nil =>
    intro m K L h
    have : m = [] := List.eq_nil_of_length_eq_zero (by simpa using h.symm)
    subst this
    simp [cmpS, Op.bytesLess]
  | cons x n ih =>
    intro m K L h
    cases m with
    | nil => simp at h
    | cons y m =>
      simp only [List.map_cons, List.cons_append, cmpL_cons, natlt, cmpS_cons]
      rw [ih m K L (by simpa using h)]
      split
      · simp
      · split <;> simp

theorem num_key (n m : List UInt8) (K L : List Int) : cmpL (num n ++ K) (num m ++ L) = if numC n m ≠ 0 then numC n m else cmpL K L := by
  simp only [num, List.cons_append, cmpL_cons, natlt, numC]
  split
  · simp
  · split
    · simp
    · rw [bytes_key _ _ _ _ (by omega)]

theorem ord_step (a b : List UInt8) : ordC a b = if wordsC (word a) (word b) ≠ 0 then wordsC (word a) (word b) else if numC (numb a) (numb b) ≠ 0 then numC (numb a) (numb b) else ordC (rest a) (rest b) := by
  unfold ordC
  rw [keyU_left, keyU_right, keyU, keyU, words_key, num_key]

theorem cmpS_zero {n m : List UInt8} : cmpS n m = 0 ↔ n = m := by
  unfold cmpS
  have irr : ∀ l : List UInt8, Op.bytesLess l l = false := by
    intro l
    induction l with
    | nil => rfl
    | cons x l ih => simp [Op.bytesLess, ih]
  constructor
  · intro h
    split at h
    · omega
    · split at h
      · assumption
      · omega
  · rintro rfl
    simp [irr]

theorem numC_zero {n m : List UInt8} : numC n m = 0 ↔ n = m := by
  unfold numC
  constructor
  · intro h
    split at h
    · omega
    · split at h
      · omega
      · exact cmpS_zero.mp h
  · rintro rfl
    simp [cmpS_zero]

end Go.Cellar
