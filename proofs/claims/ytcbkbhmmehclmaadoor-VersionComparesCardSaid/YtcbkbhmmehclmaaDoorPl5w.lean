/- VersionCompares, as a plain law. No condition. -/
import Derived.Test.YtcbkbhmmehclmaaDoorPl5v
set_option linter.unusedSimpArgs false
namespace Go.Cellar
open Go

def holdsV (c : Int) (op : List UInt8) : Bool :=
  if op = [60, 60] then decide (c < 0) else if op = [60, 61] then decide (c ≤ 0) else if op = [61] then decide (c = 0) else if op = [62, 61] then decide (0 ≤ c) else if op = [62, 62] then decide (0 < c) else decide (op = [])

theorem holds_eq (a op b : List UInt8) (ha : a.length ≤ 1000) (hb : b.length ≤ 1000) : version_Holds a op b = some (holdsV (cmpV (parsedV a) (parsedV b)) op) := by
  unfold version_Holds holdsV
  simp only [compare_eq a b ha hb, Option.bind_some, Bool.cond_decide]
  split
  · rfl
  · split
    · rfl
    · split
      · rfl
      · split
        · rfl
        · split <;> rfl

theorem refHolds_eq (a op b : List UInt8) (ha : a.length ≤ 1000) (hb : b.length ≤ 1000) : cellarerref05_Holds a op b = some (holdsV (cmpV (parsedV a) (parsedV b)) op) := by
  unfold cellarerref05_Holds holdsV
  simp only [refCompare_eq a b ha hb, Option.bind_some]
  generalize cmpV (parsedV a) (parsedV b) = c
  by_cases h0 : op = []
  · subst h0; simp
  · by_cases h1 : op = [60, 60]
    · subst h1
      by_cases hc : c < 0 <;> simp [hc]
    · by_cases h2 : op = [60, 61]
      · subst h2
        by_cases hc : c ≤ 0 <;> simp [hc]
      · by_cases h3 : op = [61]
        · subst h3
          by_cases hc : c = 0 <;> simp [hc]
        · by_cases h4 : op = [62, 61]
          · subst h4
            by_cases hc : 0 ≤ c <;> simp [hc]
          · by_cases h5 : op = [62, 62]
            · subst h5
              by_cases hc : 0 < c <;> simp [hc]
            · simp only [h0, h1, h2, h3, h4, h5, decide_false, cond_false, if_false]

theorem VersionCompares_true (a b op : List UInt8) : cellarerlaw05_VersionCompares a b op = some true := by
  unfold cellarerlaw05_VersionCompares
  simp only [awake5, Option.bind_some, Bool.cond_decide]
  by_cases c1 : (500 : Int) < (a.length : Int)
  · simp [c1]
  · by_cases c2 : (500 : Int) < (b.length : Int)
    · simp [c1, c2]
    · rw [compare_eq a b (by omega) (by omega), refCompare_eq a b (by omega) (by omega), compare_eq b a (by omega) (by omega), holds_eq a op b (by omega) (by omega), refHolds_eq a op b (by omega) (by omega), cmpV_swap (parsedV a) (parsedV b)]
      have := cmpV_range (parsedV a) (parsedV b)
      generalize cmpV (parsedV a) (parsedV b) = c at *
      have e1 : IntKind.wrap IntKind.i64 ((0 : Int) - c) = - c := by rw [w64 (by omega) (by omega)]; omega
      simp only [c1, c2, e1, if_false, Option.bind_some, Sum.elim_inr, if_true]

theorem VersionChains_true (a b c : List UInt8) : cellarerlaw05_VersionChains a b c = some true := by
  unfold cellarerlaw05_VersionChains
  simp only [awake5, Option.bind_some]
  by_cases c1 : (300 : Int) < (a.length : Int)
  · simp [c1]
  · by_cases c2 : (300 : Int) < (b.length : Int)
    · simp [c1, c2]
    · by_cases c3 : (300 : Int) < (c.length : Int)
      · simp [c1, c2, c3]
      · rw [compare_eq a b (by omega) (by omega), compare_eq b c (by omega) (by omega), compare_eq a c (by omega) (by omega)]
        have h := cmpV_T3 (parsedV a) (parsedV b) (parsedV c)
        generalize cmpV (parsedV a) (parsedV b) = x at *
        generalize cmpV (parsedV b) (parsedV c) = y at *
        generalize cmpV (parsedV a) (parsedV c) = z at *
        obtain ⟨h1, h2⟩ := h
        simp only [c1, c2, c3, decide_false, cond_false, Option.bind_some, Sum.elim_inr]
        by_cases x0 : x ≤ 0 <;> by_cases y0 : y ≤ 0 <;> by_cases z0 : 0 < z <;> by_cases xe : x = 0 <;> by_cases ye : y = z <;> by_cases xl : x < 0 <;> by_cases yl : y < 0 <;> by_cases zg : 0 ≤ z <;>
          first
          | (exfalso; omega)
          | (exfalso; have := h1 x0 y0; omega)
          | (exfalso; exact ye (h2 xe))
          | (subst ye; simp [x0, y0, z0, xe, xl, yl, zg]; done)
          | (simp [x0, y0, z0, xe, ye, xl, yl, zg]; done)

end Go.Cellar
