/- VersionTexts, as a plain law. No condition. -/
import Derived.Test.YtcbkbhmmehclmaaDoorPl5a
set_option linter.unusedSimpArgs false
namespace Go.Cellar
open Go

def textOf (v : Int) (u r : List UInt8) : List UInt8 :=
  let s := if 0 < v ∨ 0 ≤ idxByte 58 u 0 then digI (if (0 : Int) > v then (0 : Int) else v) ++ [58] ++ u else u
  if r ≠ [48] ∨ 0 ≤ idxByte 45 u 0 then s ++ [45] ++ r else s

theorem digI_len {n : Int} (h : 0 ≤ n) (h' : n < 9223372036854775808) : (digI n).length ≤ 20 := by
  unfold digI
  rw [if_neg (by omega)]
  exact dig_length 19 _ (by omega)

theorem versionText_eq (v : Int) (u r : List UInt8) (h0 : -9223372036854775808 ≤ v) (h1 : v < 9223372036854775808) (hu : u.length < 1000000) (hr : r.length < 1000000) : version_Text v u r = some (textOf v u r) := by
  have hd : (digI (if (0 : Int) > v then (0 : Int) else v)).length ≤ 20 := digI_len (by split <;> omega) (by split <;> omega)
  have ht : bits_Text (if (0 : Int) > v then (0 : Int) else v) = some (digI (if (0 : Int) > v then (0 : Int) else v)) := bitsText_eq _ (by split <;> omega) (by split <;> omega)
  unfold version_Text textOf
  simp only [IndexByte5 _ _ (show (0 : Int) ≤ 58 by omega) (by omega), IndexByte5 _ _ (show (0 : Int) ≤ 45 by omega) (by omega), ht, Option.bind_some, Bool.cond_decide, Bool.cond_not]
  generalize digI (if (0 : Int) > v then (0 : Int) else v) = d at *
  by_cases c1 : 0 < v <;> by_cases c2 : 0 ≤ idxByte 58 u 0 <;> by_cases c3 : r = [48] <;> by_cases c4 : 0 ≤ idxByte 45 u 0 <;>
    simp (disch := omega) only [c1, c2, c3, c4, List.length_append, List.length_cons, List.length_nil, if_pos, if_neg, Option.bind_some, decide_true, decide_false, if_true, if_false, or_true, or_false, true_or, false_or, ne_eq, not_true_eq_false, not_false_eq_true, List.append_assoc]

theorem refText5_eq (v : Int) (u r : List UInt8) (h0 : -9223372036854775808 ≤ v) (h1 : v < 9223372036854775808) (hu : u.length < 1000000) (hr : r.length < 1000000) : cellarerref05_Text v u r = some (textOf v u r) := by
  have hd : (digI (if (0 : Int) > v then (0 : Int) else v)).length ≤ 20 := digI_len (by split <;> omega) (by split <;> omega)
  have ht : cellarerref01_Text (if (0 : Int) > v then (0 : Int) else v) = some (digI (if (0 : Int) > v then (0 : Int) else v)) := refText_eq _ (by split <;> omega) (by split <;> omega)
  unfold cellarerref05_Text textOf
  simp only [at_first u _ (by omega), ht, Option.bind_some, Bool.cond_decide, Bool.cond_not]
  generalize digI (if (0 : Int) > v then (0 : Int) else v) = d at *
  by_cases c1 : 0 < v <;> by_cases c2 : 0 ≤ idxByte 58 u 0 <;> by_cases c3 : r = [48] <;> by_cases c4 : 0 ≤ idxByte 45 u 0 <;>
    simp (disch := omega) only [c1, c2, c3, c4, List.length_append, List.length_cons, List.length_nil, if_pos, if_neg, Option.bind_some, decide_true, decide_false, if_true, if_false, or_true, or_false, true_or, false_or, ne_eq, not_true_eq_false, not_false_eq_true, List.append_assoc]

theorem VersionTexts_true (v : Int) (u r : List UInt8) (hv : (Lit.int .i64 v).wf = true) : cellarerlaw05_VersionTexts v u r = some true := by
  obtain ⟨h0, h1⟩ := fit64 hv
  unfold cellarerlaw05_VersionTexts
  simp only [awake5, Option.bind_some, Bool.cond_decide]
  by_cases c1 : (500 : Int) < (u.length : Int)
  · simp [c1]
  · by_cases c2 : (500 : Int) < (r.length : Int)
    · simp [c2]
    · rw [versionText_eq v u r h0 (by omega) (by omega) (by omega), refText5_eq v u r h0 (by omega) (by omega) (by omega)]
      simp [c1, c2]

end Go.Cellar
