/- Relations of any length: whether they may be, and their texts. No condition. -/
import Derived.Test.YtapfjjbgcfnnmaaDoorPl20q
set_option linter.unusedSimpArgs false
set_option linter.unusedVariables false
set_option maxRecDepth 8000
namespace Go.Cellar
open Go

theorem kplusM {k n : Nat} (h : k < n) (hn : n ≤ 9223372036854775807) : IntKind.wrap IntKind.i64 ((k : Int) + 1) = ((k + 1 : Nat) : Int) := by
  rw [w64 (by omega) (by omega)]; omega


def isWord (c : UInt8) : Bool := (decide (97 ≤ c.toNat) && decide (c.toNat ≤ 122)) || (decide (48 ≤ c.toNat) && decide (c.toNat ≤ 57))

def isMark (c : UInt8) : Bool := decide (c.toNat = 43) || decide (c.toNat = 45) || decide (c.toNat = 46)

def nameAt (k : Nat) (c : UInt8) : Bool := isWord c || (decide (k ≠ 0) && isMark c)

def nameV (s : List UInt8) : Bool := decide (1 ≤ s.length) && decide (s.length ≤ 60) && allFrom nameAt 0 s

theorem ile (a : Nat) (n : Nat) : (((a : Nat) : Int) ≤ (n : Int)) = (a ≤ n) := propext (by omega)

theorem il97 (n : Nat) : ((97 : Int) ≤ (n : Int)) = (97 ≤ n) := propext (by omega)

theorem il122 (n : Nat) : ((n : Int) ≤ (122 : Int)) = (n ≤ 122) := propext (by omega)

theorem il48 (n : Nat) : ((48 : Int) ≤ (n : Int)) = (48 ≤ n) := propext (by omega)

theorem il57 (n : Nat) : ((n : Int) ≤ (57 : Int)) = (n ≤ 57) := propext (by omega)

theorem ie43 (n : Nat) : ((n : Int) = (43 : Int)) = (n = 43) := propext (by omega)

theorem ie45 (n : Nat) : ((n : Int) = (45 : Int)) = (n = 45) := propext (by omega)

theorem ie46 (n : Nat) : ((n : Int) = (46 : Int)) = (n = 46) := propext (by omega)

theorem ie47 (n : Nat) : ((n : Int) = (47 : Int)) = (n = 47) := propext (by omega)

theorem ie0 (n : Nat) : ((n : Int) = (0 : Int)) = (n = 0) := propext (by omega)

theorem refName_eq (s : List UInt8) (hs : s.length ≤ 9223372036854775807) : cellarerref02_Name s = some (nameV s) := by
  unfold cellarerref02_Name nameV
  have := all_loop (cellarerref02_Name_b0 s) nameAt s (fun k hk => by
      unfold cellarerref02_Name_b0
      simp [show ¬ k < s.length by omega]) (fun k c r h => by
      unfold cellarerref02_Name_b0
      obtain ⟨g1, g2, _⟩ := drop_cons h 0
      simp only [natlt, g1, decide_true, cond_true, Int.natCast_nonneg, true_and, if_true, Int.toNat_natCast, g2, kplusM g1 hs, il97, il122, il48, il57, ie43, ie45, ie46, ie0, nameAt, isWord, isMark]
      by_cases h1 : 97 ≤ c.toNat <;> by_cases h2 : c.toNat ≤ 122 <;> by_cases h6 : 48 ≤ c.toNat <;> by_cases h7 : c.toNat ≤ 57 <;> by_cases hk : k = 0 <;> by_cases h3 : c.toNat = 43 <;> by_cases h4 : c.toNat = 45 <;> by_cases h5 : c.toNat = 46 <;> first | (exfalso; omega) | simp [h1, h2, h6, h7, hk, h3, h4, h5]) s 0 rfl
  rw [show ((0 : Int)) = ((0 : Nat) : Int) from rfl, this]
  by_cases h2 : 1 ≤ s.length
  · by_cases h3 : s.length ≤ 60
    · cases allFrom nameAt 0 s <;> simp [h2, h3, show (1 : Int) ≤ (s.length : Int) by omega, show (s.length : Int) ≤ 60 by omega]
    · cases allFrom nameAt 0 s <;> simp [h2, h3, show (1 : Int) ≤ (s.length : Int) by omega, show ¬ (s.length : Int) ≤ 60 by omega]
  · cases allFrom nameAt 0 s <;> simp [h2, show ¬ (1 : Int) ≤ (s.length : Int) by omega]



def ops7 : List (List UInt8) := [[60, 60], [60, 61], [61], [62, 61], [62, 62]]
def rightR (x : Rl) : Bool := nameV x.1 && (if x.2.1 = [] then decide (x.2.2 = []) else decide (x.2.1 ∈ ops7) && decide ((parseV x.2.2).2.2.2 = 0))

theorem refRelRight_eq (n o v : List UInt8) (hn : n.length ≤ 9223372036854775807) (hv : v.length < 9223372036854775808) : cellarerref07_Right n o v = some (rightR (n, o, v)) := by
  unfold cellarerref07_Right rightR
  rw [refName_eq n hn, Option.bind_some]
  cases nameV n
  · rfl
  · simp only [Bool.not_true, cond_false, Bool.true_and]
    by_cases ho : o = []
    · simp [ho]
    · simp only [ho, decide_false, cond_false, if_false]
      rw [rparse_eq v hv]
      simp only [ops7, List.mem_cons, List.not_mem_nil, or_false]
      by_cases h1 : o = [60, 60]
      · simp [h1]
      · by_cases h2 : o = [60, 61]
        · simp [h2]
        · by_cases h3 : o = [61]
          · simp [h3]
          · by_cases h4 : o = [62, 61]
            · simp [h4]
            · by_cases h5 : o = [62, 62]
              · simp [h5]
              · simp [h1, h2, h3, h4, h5]

def textR (x : Rl) : List UInt8 := if x.2.1 = [] then x.1 else x.1 ++ [32, 40] ++ x.2.1 ++ [32] ++ x.2.2 ++ [41]

theorem refTextR_eq (n o v : List UInt8) (h : n.length + o.length + v.length < 1000000000) : cellarerref07_Text n o v = some (textR (n, o, v)) := by
  unfold cellarerref07_Text textR
  by_cases ho : o = []
  · simp [ho]
  · simp only [ho, decide_false, cond_false, if_false, List.length_append, List.length_cons, List.length_nil]
    rw [if_pos (by omega), if_pos (by omega), if_pos (by omega), if_pos (by omega), if_pos (by omega)]

end Go.Cellar
