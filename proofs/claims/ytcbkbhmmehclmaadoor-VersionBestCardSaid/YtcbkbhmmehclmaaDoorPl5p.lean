/- A version's key, and that the reference's order is its order. No condition. -/
import Derived.Test.YtcbkbhmmehclmaaDoorPl5o
set_option linter.unusedSimpArgs false
namespace Go.Cellar
open Go

def nd (c : UInt8) : Bool := !isD c
def word (a : List UInt8) : List UInt8 := a.takeWhile nd
def numb (a : List UInt8) : List UInt8 := ((a.dropWhile nd).takeWhile isD).dropWhile (fun c => decide (c.toNat = 48))
def rest (a : List UInt8) : List UInt8 := (a.dropWhile nd).dropWhile isD

theorem dropWhile_le {α : Type} (p : α → Bool) (l : List α) : (l.dropWhile p).length ≤ l.length := (List.dropWhile_sublist p).length_le

theorem rest_lt {a : List UInt8} (h : a ≠ []) : (rest a).length < a.length := by
  cases a with
  | nil => exact absurd rfl h
  | cons c t =>
    unfold rest
    by_cases hc : isD c
    · have : (c :: t).dropWhile nd = c :: t := by simp [List.dropWhile_cons, nd, hc]
      rw [this, List.dropWhile_cons, if_pos hc]
      have := dropWhile_le isD t
      simp; omega
    · have : (c :: t).dropWhile nd = t.dropWhile nd := by simp [List.dropWhile_cons, nd, hc]
      rw [this]
      have h1 := dropWhile_le nd t
      have h2 := dropWhile_le isD (t.dropWhile nd)
      simp; omega

def num (n : List UInt8) : List Int := (n.length : Int) :: n.map fun c => (c.toNat : Int)

def key (a : List UInt8) : List Int := if h : a = [] then [] else (word a).map wt ++ 0 :: (num (numb a) ++ key (rest a))
termination_by a.length
decreasing_by exact rest_lt h

def keyU (a : List UInt8) : List Int := (word a).map wt ++ 0 :: (num (numb a) ++ key (rest a))

def ordC (a b : List UInt8) : Int := cmpL (key a) (key b)
def wordsC (p q : List UInt8) : Int := cmpL (p.map wt) (q.map wt)
def numC (n m : List UInt8) : Int := if n.length < m.length then -1 else if m.length < n.length then 1 else cmpS n m

theorem cmpL_pad (ys : List Int) : cmpL [0, 0] ys = cmpL [] ys := by
  rw [cmpL_step [0, 0] ys, cmpL_step [] ys]
  simp only [List.headD_cons, List.headD_nil, List.tail_cons, List.tail_nil]
  rw [cmpL_step [0] ys.tail, cmpL_step [] ys.tail]
  simp only [List.headD_cons, List.headD_nil, List.tail_cons, List.tail_nil]
  rfl

theorem cmpL_pad' (ys : List Int) : cmpL ys [0, 0] = cmpL ys [] := by
  rw [cmpL_swap _ [0, 0] ys (Nat.le_refl _), cmpL_swap _ [] ys (Nat.le_refl _), cmpL_pad]

theorem keyU_left (a : List UInt8) (ys : List Int) : cmpL (key a) ys = cmpL (keyU a) ys := by
  by_cases h : a = []
  · subst h
    rw [key, dif_pos rfl, ← cmpL_pad]
    congr 1
    rw [keyU, show rest [] = [] from rfl, key, dif_pos rfl]
    rfl
  · rw [key, dif_neg h, keyU]

theorem keyU_right (a : List UInt8) (ys : List Int) : cmpL ys (key a) = cmpL ys (keyU a) := by
  rw [cmpL_swap _ (key a) ys (Nat.le_refl _), cmpL_swap _ (keyU a) ys (Nat.le_refl _), keyU_left]

theorem words_key : ∀ (p q : List UInt8) (K L : List Int), cmpL (p.map wt ++ 0 :: K) (q.map wt ++ 0 :: L) = if wordsC p q ≠ 0 then wordsC p q else cmpL K L := by
  intro p
  induction p with
  | nil =>
    intro q K L
    cases q with
    | nil => simp [wordsC, cmpL_nil, cmpL_cons]
    | cons y q =>
      have := wt_ne y
      simp only [wordsC, List.map_nil, List.nil_append, List.map_cons, List.cons_append, cmpL_cons]
      rw [cmpL_step [] (wt y :: _)]
      simp only [List.headD_nil, List.headD_cons]
      by_cases h : 0 < wt y
      · simp [h]
      · have : wt y < 0 := by omega
        simp [h, this]
  | cons x p ih =>
    intro q K L
    cases q with
    | nil =>
      have := wt_ne x
      simp only [wordsC, List.map_nil, List.nil_append, List.map_cons, List.cons_append, cmpL_cons]
      rw [cmpL_step (wt x :: _) []]
      simp only [List.headD_nil, List.headD_cons]
      by_cases h : wt x < 0
      · simp [h]
      · have : 0 < wt x := by omega
        simp [h, this]
    | cons y q =>
      have := ih q K L
      simp only [wordsC, List.map_cons, List.cons_append, cmpL_cons] at this ⊢
      rw [this]
      split
      · simp
      · split
        · simp
        · rfl

theorem words_len : ∀ (p q : List UInt8), wordsC p q = 0 → p.length = q.length := by
  intro p
  induction p with
  | nil =>
    intro q h
    cases q with
    | nil => rfl
    | cons y q =>
      have := wt_ne y
      simp only [wordsC, List.map_nil, List.map_cons] at h
      rw [cmpL_step] at h
      simp only [List.headD_nil, List.headD_cons] at h
      by_cases h1 : wt y < 0
      · simp [h1, show ¬ 0 < wt y by omega] at h
      · simp [h1, show 0 < wt y by omega] at h
  | cons x p ih =>
    intro q h
    cases q with
    | nil =>
      have := wt_ne x
      simp only [wordsC, List.map_nil, List.map_cons] at h
      rw [cmpL_step] at h
      simp only [List.headD_nil, List.headD_cons] at h
      by_cases h1 : wt x < 0
      · simp [h1, show ¬ 0 < wt x by omega] at h
      · simp [h1, show 0 < wt x by omega] at h
    | cons y q =>
      simp only [wordsC, List.map_cons, cmpL_cons] at h
      split at h
      · omega
      · split at h
        · omega
        · simp [ih q h]

theorem cmpS_cons (x y : UInt8) (n m : List UInt8) : cmpS (x :: n) (y :: m) = if x.toNat < y.toNat then -1 else if y.toNat < x.toNat then 1 else cmpS n m := by
  unfold cmpS
  simp only [Op.bytesLess]
  by_cases h : x.toNat < y.toNat
  · have : x < y := UInt8.lt_iff_toNat_lt.mpr h
    simp [h, this]
  · have h1 : ¬ x < y := fun c => h (UInt8.lt_iff_toNat_lt.mp c)
    by_cases h2 : y.toNat < x.toNat
    · have h3 : x ≠ y := fun c => by subst c; omega
      simp [h, h1, h2, h3]
    · have h3 : x = y := UInt8.toNat_inj.mp (by omega)
      subst h3
      simp

theorem bytes_key : ∀ (n m : List UInt8) (K L : List Int), n.length = m.length → cmpL (n.map (fun c => (c.toNat : Int)) ++ K) (m.map (fun c => (c.toNat : Int)) ++ L) = if cmpS n m ≠ 0 then cmpS n m else cmpL K L := by
  intro n
  induction n with
  | nil =>
    intro m K L h
    have : m = [] := List.eq_nil_of_length_eq_zero (by simpa using h.symm)
    subst this
    simp [cmpS, Op.bytesLess]
  | cons x n ih =>
    intro m K L h
    cases m with
    | nil => simp at h
    | cons y m =>
      simp only [List.map_cons, List.cons_append, cmpL_cons, natlt, cmpS_cons]
      rw [ih m K L (by simpa using h)]
      split
      · simp
      · split <;> simp

theorem num_key (n m : List UInt8) (K L : List Int) : cmpL (num n ++ K) (num m ++ L) = if numC n m ≠ 0 then numC n m else cmpL K L := by
  simp only [num, List.cons_append, cmpL_cons, natlt, numC]
  split
  · simp
  · split
    · simp
    · rw [bytes_key _ _ _ _ (by omega)]

theorem ord_step (a b : List UInt8) : ordC a b = if wordsC (word a) (word b) ≠ 0 then wordsC (word a) (word b) else if numC (numb a) (numb b) ≠ 0 then numC (numb a) (numb b) else ordC (rest a) (rest b) := by
  unfold ordC
  rw [keyU_left, keyU_right, keyU, keyU, words_key, num_key]

theorem cmpS_zero {n m : List UInt8} : cmpS n m = 0 ↔ n = m := by
  unfold cmpS
  have irr : ∀ l : List UInt8, Op.bytesLess l l = false := by
    intro l
    induction l with
    | nil => rfl
    | cons x l ih => simp [Op.bytesLess, ih]
  constructor
  · intro h
    split at h
    · omega
    · split at h
      · assumption
      · omega
  · rintro rfl
    simp [irr]

theorem numC_zero {n m : List UInt8} : numC n m = 0 ↔ n = m := by
  unfold numC
  constructor
  · intro h
    split at h
    · omega
    · split at h
      · omega
      · exact cmpS_zero.mp h
  · rintro rfl
    simp [cmpS_zero]

end Go.Cellar
