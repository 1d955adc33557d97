/- Plain laws of names and heads. No condition. -/
import Derived.Test.YtblmgbbablmedaaDoorPl0
import Derived.Test.YtblmgbbablmedaaDoorFun10
set_option linter.unusedSimpArgs false
set_option linter.unusedVariables false
namespace Go.Cellar
open Go

/-! ### names -/

def isWord (c : UInt8) : Bool := (decide (97 ≤ c.toNat) && decide (c.toNat ≤ 122)) || (decide (48 ≤ c.toNat) && decide (c.toNat ≤ 57))
def isMark (c : UInt8) : Bool := decide (c.toNat = 43) || decide (c.toNat = 45) || decide (c.toNat = 46)
def nameAt (k : Nat) (c : UInt8) : Bool := isWord c || (decide (k ≠ 0) && isMark c)
def nameV (s : List UInt8) : Bool := decide (1 ≤ s.length) && decide (s.length ≤ 60) && allFrom nameAt 0 s

theorem ile (a : Nat) (n : Nat) : (((a : Nat) : Int) ≤ (n : Int)) = (a ≤ n) := propext (by omega)
theorem il97 (n : Nat) : ((97 : Int) ≤ (n : Int)) = (97 ≤ n) := propext (by omega)
theorem il122 (n : Nat) : ((n : Int) ≤ (122 : Int)) = (n ≤ 122) := propext (by omega)
theorem il48 (n : Nat) : ((48 : Int) ≤ (n : Int)) = (48 ≤ n) := propext (by omega)
theorem il57 (n : Nat) : ((n : Int) ≤ (57 : Int)) = (n ≤ 57) := propext (by omega)
theorem ie43 (n : Nat) : ((n : Int) = (43 : Int)) = (n = 43) := propext (by omega)
theorem ie45 (n : Nat) : ((n : Int) = (45 : Int)) = (n = 45) := propext (by omega)
theorem ie46 (n : Nat) : ((n : Int) = (46 : Int)) = (n = 46) := propext (by omega)
theorem ie47 (n : Nat) : ((n : Int) = (47 : Int)) = (n = 47) := propext (by omega)
theorem ie0 (n : Nat) : ((n : Int) = (0 : Int)) = (n = 0) := propext (by omega)

/-! ### heads and ends -/

theorem hasPrefix_eq (s p : List UInt8) : strings_HasPrefix s p = some (decide (s.take p.length = p)) := by
  unfold strings_HasPrefix stringslite_HasPrefix
  by_cases h : p.length ≤ s.length
  · have hd : decide ((p.length : Int) ≤ (s.length : Int)) = true := by simp; omega
    simp only [hd, cond_true]
    rw [if_pos (by omega)]
    simp [Int.toNat_natCast]
  · have : ¬ s.take p.length = p := fun e => by
      have := congrArg List.length e
      rw [List.length_take] at this
      omega
    simp [show ¬ ((p.length : Int) ≤ (s.length : Int)) by omega, this]

def endsSl (s : List UInt8) : Bool := decide (s.getLast? = some 47)

theorem drop_last {s : List UInt8} (h : 1 ≤ s.length) : s.drop (s.length - 1) = [s.getD (s.length - 1) 0] := by
  have hl : s.length - 1 < s.length := by omega
  rw [List.drop_eq_getElem_cons hl, List.drop_eq_nil_of_le (by omega), List.getD_eq_getElem?_getD, List.getElem?_eq_getElem hl]
  rfl

theorem endsSl_at {s : List UInt8} (h : 1 ≤ s.length) : endsSl s = decide ((s.getD (s.length - 1) 0) = 47) := by
  unfold endsSl
  rw [List.getLast?_eq_getElem?, List.getD_eq_getElem?_getD, List.getElem?_eq_getElem (show s.length - 1 < s.length by omega)]
  simp

theorem hasSuffix_eq (s : List UInt8) (hs : s.length < 4611686018427387904) : strings_HasSuffix s [47] = some (endsSl s) := by
  unfold strings_HasSuffix stringslite_HasSuffix
  by_cases h : 1 ≤ s.length
  · have hd : decide (((([47] : List UInt8).length : Nat) : Int) ≤ (s.length : Int)) = true := by simp; omega
    have ew : IntKind.wrap IntKind.i64 ((s.length : Int) - ((([47] : List UInt8).length : Nat) : Int)) = ((s.length - 1 : Nat) : Int) := by
      rw [w64 (by simp; omega) (by simp; omega)]; simp; omega
    simp only [hd, cond_true, ew, Int.toNat_natCast, List.take_length, drop_last h, endsSl_at h]
    rw [if_pos (by omega)]
    simp
  · have h0 : s = [] := List.eq_nil_of_length_eq_zero (by omega)
    subst h0
    rfl

theorem u8_47 (c : UInt8) : ((c.toNat : Int) = 47) = (c = 47) := propext ⟨fun h => UInt8.toNat_inj.mp (by have : (47 : UInt8).toNat = 47 := rfl; omega), fun h => by subst h; rfl⟩

end Go.Cellar
