/- VersionCompares, VersionChains, VersionBest as plain laws. No condition. -/
import Derived.Test.YtcbkbhmmehclmaaDoorPl5u
set_option linter.unusedSimpArgs false
namespace Go.Cellar
open Go

def parsedV (s : List UInt8) : Int × List UInt8 × List UInt8 :=
  if (parseV s).2.2.2 = 0 then ((parseV s).1, (parseV s).2.1, (parseV s).2.2.1) else (0, s, [48])

def sgnI (x y : Int) : Int := if x < y then -1 else if y < x then 1 else 0

def cmpV (x y : Int × List UInt8 × List UInt8) : Int :=
  if sgnI x.1 y.1 ≠ 0 then sgnI x.1 y.1 else if ordC x.2.1 y.2.1 ≠ 0 then ordC x.2.1 y.2.1 else ordC x.2.2 y.2.2

theorem parseV_len (s : List UInt8) : (parseV s).2.1.length ≤ 1000 ∧ (parseV s).2.2.1.length ≤ 1000 := by
  unfold parseV
  split
  · simp
  · split
    · simp
    · rename_i marks rest n hf
      have hr : rest.length ≤ s.length := by
        unfold front at hf
        dsimp only at hf
        split at hf
        · split at hf
          · simp only [Option.some.injEq, Prod.mk.injEq] at hf
            obtain ⟨_, rfl, _⟩ := hf
            simp
          · cases hf
        · simp only [Option.some.injEq, Prod.mk.injEq] at hf
          obtain ⟨_, rfl, _⟩ := hf
          exact Nat.le_refl _
      obtain ⟨h1, h2⟩ := cutHy_len rest
      split
      · simp only; omega
      · simp

theorem parsedV_len (s : List UInt8) (hs : s.length ≤ 1000) : (parsedV s).2.1.length ≤ 1000 ∧ (parsedV s).2.2.length ≤ 1000 := by
  unfold parsedV
  split
  · exact parseV_len s
  · simpa using hs

theorem compare_eq (a b : List UInt8) (ha : a.length ≤ 1000) (hb : b.length ≤ 1000) : version_Compare a b = some (cmpV (parsedV a) (parsedV b)) := by
  unfold version_Compare version_parsed
  have pa : (bif !decide ((parseV a).2.2.2 = 0) then some ((0 : Int), a, [(48 : UInt8)]) else some ((parseV a).1, (parseV a).2.1, (parseV a).2.2.1)) = some (parsedV a) := by
    unfold parsedV
    by_cases h : (parseV a).2.2.2 = 0 <;> simp [h]
  have pb : (bif !decide ((parseV b).2.2.2 = 0) then some ((0 : Int), b, [(48 : UInt8)]) else some ((parseV b).1, (parseV b).2.1, (parseV b).2.2.1)) = some (parsedV b) := by
    unfold parsedV
    by_cases h : (parseV b).2.2.2 = 0 <;> simp [h]
  obtain ⟨a1, a2⟩ := parsedV_len a ha
  obtain ⟨b1, b2⟩ := parsedV_len b hb
  simp only [vparse_eq a (by omega), vparse_eq b (by omega), Option.bind_some, pa, pb]
  generalize parsedV a = x at *
  generalize parsedV b = y at *
  obtain ⟨x1, x2, x3⟩ := x
  obtain ⟨y1, y2, y3⟩ := y
  simp only at a1 a2 b1 b2
  simp only [cmpInt_eq, Option.bind_some, order_eq x2 y2 (by omega) (by omega), order_eq x3 y3 (by omega) (by omega), cmpV, sgnI]
  by_cases c1 : x1 < y1
  · simp [c1]
  · by_cases c2 : y1 < x1
    · simp [c1, c2]
    · by_cases c3 : ordC x2 y2 = 0 <;> simp [c1, c2, c3]

theorem refCompare_eq (a b : List UInt8) (ha : a.length ≤ 1000) (hb : b.length ≤ 1000) : cellarerref05_Compare a b = some (cmpV (parsedV a) (parsedV b)) := by
  unfold cellarerref05_Compare
  have pa : (bif !decide ((parseV a).2.2.2 = 0) then some ((0 : Int), a, [(48 : UInt8)]) else some ((parseV a).1, (parseV a).2.1, (parseV a).2.2.1)) = some (parsedV a) := by
    unfold parsedV
    by_cases h : (parseV a).2.2.2 = 0 <;> simp [h]
  have pb : (bif !decide ((parseV b).2.2.2 = 0) then some ((0 : Int), b, [(48 : UInt8)]) else some ((parseV b).1, (parseV b).2.1, (parseV b).2.2.1)) = some (parsedV b) := by
    unfold parsedV
    by_cases h : (parseV b).2.2.2 = 0 <;> simp [h]
  obtain ⟨a1, a2⟩ := parsedV_len a ha
  obtain ⟨b1, b2⟩ := parsedV_len b hb
  simp only [rparse_eq a (by omega), rparse_eq b (by omega), Option.bind_some, pa, pb]
  generalize parsedV a = x at *
  generalize parsedV b = y at *
  obtain ⟨x1, x2, x3⟩ := x
  obtain ⟨y1, y2, y3⟩ := y
  simp only at a1 a2 b1 b2
  simp only [Option.bind_some, refOrder_eq x2 y2 (by omega), refOrder_eq x3 y3 (by omega), cmpV, sgnI]
  by_cases c1 : x1 < y1
  · simp [c1]
  · by_cases c2 : y1 < x1
    · simp [c1, c2]
    · by_cases c3 : ordC x2 y2 = 0 <;> simp [c1, c2, c3]

theorem cmpV_swap (x y : Int × List UInt8 × List UInt8) : cmpV y x = - cmpV x y := by
  unfold cmpV sgnI
  rw [ordC_swap x.2.1 y.2.1, ordC_swap x.2.2 y.2.2]
  by_cases c1 : x.1 < y.1
  · simp [c1, show ¬ y.1 < x.1 by omega]
  · by_cases c2 : y.1 < x.1
    · simp [c1, c2]
    · by_cases c3 : ordC x.2.1 y.2.1 = 0
      · simp [c1, c2, c3]
      · simp [c1, c2, c3]

theorem cmpV_range (x y : Int × List UInt8 × List UInt8) : cmpV x y = -1 ∨ cmpV x y = 0 ∨ cmpV x y = 1 := by
  unfold cmpV sgnI
  have h1 := ordC_range x.2.1 y.2.1
  have h2 := ordC_range x.2.2 y.2.2
  by_cases c1 : x.1 < y.1
  · simp [c1]
  · by_cases c2 : y.1 < x.1
    · simp [c1, c2]
    · by_cases c3 : ordC x.2.1 y.2.1 = 0
      · simp [c1, c2, c3]; omega
      · simp [c1, c2, c3]; omega

theorem cmpV_self (x : Int × List UInt8 × List UInt8) : cmpV x x = 0 := by
  unfold cmpV sgnI ordC
  simp [cmpL_self]

/-- How three stand. -/
def T3 (a b c : Int) : Prop := (a ≤ 0 → b ≤ 0 → c ≤ 0 ∧ ((a < 0 ∨ b < 0) → c < 0)) ∧ (a = 0 → b = c)

theorem T3_lex {a b c a' b' c' : Int} (h : T3 a b c) (h' : T3 a' b' c') (hs : b = 0 → c = a) : T3 (if a ≠ 0 then a else a') (if b ≠ 0 then b else b') (if c ≠ 0 then c else c') := by
  unfold T3 at *
  obtain ⟨h1, h2⟩ := h
  obtain ⟨h3, h4⟩ := h'
  by_cases ha : a = 0
  · have hb := h2 ha
    subst ha
    subst hb
    by_cases hb : b = 0
    · subst hb
      simpa using ⟨h3, h4⟩
    · simp only [ne_eq, not_true_eq_false, if_false, hb, not_false_eq_true, if_true]
      constructor
      · intro _ hb'; exact ⟨hb', fun _ => by omega⟩
      · intro _; trivial
  · by_cases hb : b = 0
    · have hc := hs hb
      subst hb
      subst hc
      simp only [ne_eq, not_true_eq_false, if_false, ha, not_false_eq_true, if_true]
      constructor
      · intro hc _; exact ⟨hc, fun _ => by omega⟩
      · intro h; first | exact absurd h ha | exact h.elim
    · simp only [ne_eq, ha, hb, not_false_eq_true, if_true]
      constructor
      · intro ha' hb'
        have := (h1 ha' hb').2 (.inl (by omega))
        rw [if_pos (by omega)]
        exact ⟨by omega, fun _ => this⟩
      · intro h; first | exact absurd h ha | exact h.elim

theorem ordC_T3 (x y z : List UInt8) : T3 (ordC x y) (ordC y z) (ordC x z) := cmpL_three _ _ _ _ (Nat.le_refl _)
theorem ordC_zero (x y z : List UInt8) (h : ordC y z = 0) : ordC x z = ordC x y := by
  have := (ordC_T3 z y x).2 (by rw [ordC_swap, h]; rfl)
  rw [ordC_swap x y, ordC_swap x z] at this
  omega

theorem cmpV_T3 (x y z : Int × List UInt8 × List UInt8) : T3 (cmpV x y) (cmpV y z) (cmpV x z) := by
  unfold cmpV
  refine T3_lex ?_ (T3_lex (ordC_T3 _ _ _) (ordC_T3 _ _ _) (ordC_zero _ _ _)) ?_
  · unfold T3 sgnI
    constructor
    · intro h1 h2
      split at h1 <;> split at h2 <;> (try split at h1) <;> (try split at h2) <;> constructor <;> (try split) <;> (try split) <;> omega
    · intro h1
      split at h1
      · omega
      · split at h1
        · omega
        · have : x.1 = y.1 := by omega
          rw [this]
  · intro h
    unfold sgnI at *
    split at h
    · omega
    · split at h
      · omega
      · have : y.1 = z.1 := by omega
        rw [this]

end Go.Cellar
