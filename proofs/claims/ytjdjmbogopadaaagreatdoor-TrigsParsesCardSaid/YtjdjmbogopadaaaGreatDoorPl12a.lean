/- Plain laws of names and heads. No condition. -/
import Derived.Test.YtjdjmbogopadaaaGreatDoorPl0
import Derived.Test.YtjdjmbogopadaaaGreatDoorFun12
set_option linter.unusedSimpArgs false
set_option linter.unusedVariables false
namespace Go.Cellar
open Go

/-! ### names -/

def isWord (c : UInt8) : Bool := (decide (97 ≤ c.toNat) && decide (c.toNat ≤ 122)) || (decide (48 ≤ c.toNat) && decide (c.toNat ≤ 57))
def isMark (c : UInt8) : Bool := decide (c.toNat = 43) || decide (c.toNat = 45) || decide (c.toNat = 46)
def nameAt (k : Nat) (c : UInt8) : Bool := isWord c || (decide (k ≠ 0) && isMark c)
def nameV (s : List UInt8) : Bool := decide (1 ≤ s.length) && decide (s.length ≤ 60) && allFrom nameAt 0 s

theorem ile (a : Nat) (n : Nat) : (((a : Nat) : Int) ≤ (n : Int)) = (a ≤ n) := propext (by omega)
theorem il97 (n : Nat) : ((97 : Int) ≤ (n : Int)) = (97 ≤ n) := propext (by omega)
theorem il122 (n : Nat) : ((n : Int) ≤ (122 : Int)) = (n ≤ 122) := propext (by omega)
theorem il48 (n : Nat) : ((48 : Int) ≤ (n : Int)) = (48 ≤ n) := propext (by omega)
theorem il57 (n : Nat) : ((n : Int) ≤ (57 : Int)) = (n ≤ 57) := propext (by omega)
theorem ie43 (n : Nat) : ((n : Int) = (43 : Int)) = (n = 43) := propext (by omega)
theorem ie45 (n : Nat) : ((n : Int) = (45 : Int)) = (n = 45) := propext (by omega)
theorem ie46 (n : Nat) : ((n : Int) = (46 : Int)) = (n = 46) := propext (by omega)
theorem ie47 (n : Nat) : ((n : Int) = (47 : Int)) = (n = 47) := propext (by omega)
theorem ie0 (n : Nat) : ((n : Int) = (0 : Int)) = (n = 0) := propext (by omega)

theorem name_eq (s : List UInt8) : path_Name s = some (nameV s) := by
  unfold path_Name nameV
  by_cases h0 : s.length = 0
  · simp [h0]
  · by_cases h1 : 60 < s.length
    · simp [h0, show (60 : Int) < (s.length : Int) by omega, show ¬ s.length ≤ 60 by omega]
    · have := all_loop (path_Name_b0 s (s.length : Int)) nameAt s (fun k hk => by
          unfold path_Name_b0
          simp [show ¬ k < s.length by omega]) (fun k c r h => by
          unfold path_Name_b0
          obtain ⟨g1, g2, _⟩ := drop_cons h 0
          simp only [natlt, g1, decide_true, cond_true, Int.natCast_nonneg, true_and, if_true, Int.toNat_natCast, g2, kplus g1 (by omega), il97, il122, il48, il57, ie43, ie45, ie46, ie0, nameAt, isWord, isMark]
          by_cases h1 : 97 ≤ c.toNat <;> by_cases h2 : c.toNat ≤ 122 <;> by_cases h6 : 48 ≤ c.toNat <;> by_cases h7 : c.toNat ≤ 57 <;> by_cases hk : k = 0 <;> by_cases h3 : c.toNat = 43 <;> by_cases h4 : c.toNat = 45 <;> by_cases h5 : c.toNat = 46 <;> first | (exfalso; omega) | simp [h1, h2, h6, h7, hk, h3, h4, h5]) s 0 rfl
      simp only [show ¬ (s.length : Int) = 0 by omega, show ¬ (60 : Int) < (s.length : Int) by omega, decide_false, cond_false, Option.bind_some, Sum.elim_inr]
      rw [show ((0 : Int)) = ((0 : Nat) : Int) from rfl, this]
      have h2 : 1 ≤ s.length := by omega
      have h3 : s.length ≤ 60 := by omega
      cases allFrom nameAt 0 s <;> simp [h2, h3]

theorem refName_eq (s : List UInt8) (hs : s.length < 4611686018427387904) : cellarerref02_Name s = some (nameV s) := by
  unfold cellarerref02_Name nameV
  have := all_loop (cellarerref02_Name_b0 s) nameAt s (fun k hk => by
      unfold cellarerref02_Name_b0
      simp [show ¬ k < s.length by omega]) (fun k c r h => by
      unfold cellarerref02_Name_b0
      obtain ⟨g1, g2, _⟩ := drop_cons h 0
      simp only [natlt, g1, decide_true, cond_true, Int.natCast_nonneg, true_and, if_true, Int.toNat_natCast, g2, kplus g1 (by omega), il97, il122, il48, il57, ie43, ie45, ie46, ie0, nameAt, isWord, isMark]
      by_cases h1 : 97 ≤ c.toNat <;> by_cases h2 : c.toNat ≤ 122 <;> by_cases h6 : 48 ≤ c.toNat <;> by_cases h7 : c.toNat ≤ 57 <;> by_cases hk : k = 0 <;> by_cases h3 : c.toNat = 43 <;> by_cases h4 : c.toNat = 45 <;> by_cases h5 : c.toNat = 46 <;> first | (exfalso; omega) | simp [h1, h2, h6, h7, hk, h3, h4, h5]) s 0 rfl
  rw [show ((0 : Int)) = ((0 : Nat) : Int) from rfl, this]
  by_cases h2 : 1 ≤ s.length
  · by_cases h3 : s.length ≤ 60
    · cases allFrom nameAt 0 s <;> simp [h2, h3, show (1 : Int) ≤ (s.length : Int) by omega, show (s.length : Int) ≤ 60 by omega]
    · cases allFrom nameAt 0 s <;> simp [h2, h3, show (1 : Int) ≤ (s.length : Int) by omega, show ¬ (s.length : Int) ≤ 60 by omega]
  · cases allFrom nameAt 0 s <;> simp [h2, show ¬ (1 : Int) ≤ (s.length : Int) by omega]

/-! ### heads and ends -/

theorem hasPrefix_eq (s p : List UInt8) : strings_HasPrefix s p = some (decide (s.take p.length = p)) := by
  unfold strings_HasPrefix stringslite_HasPrefix
  by_cases h : p.length ≤ s.length
  · have hd : decide ((p.length : Int) ≤ (s.length : Int)) = true := by simp; omega
    simp only [hd, cond_true]
    rw [if_pos (by omega)]
    simp [Int.toNat_natCast]
  · have : ¬ s.take p.length = p := fun e => by
      have := congrArg List.length e
      rw [List.length_take] at this
      omega
    simp [show ¬ ((p.length : Int) ≤ (s.length : Int)) by omega, this]

def endsSl (s : List UInt8) : Bool := decide (s.getLast? = some 47)

theorem drop_last {s : List UInt8} (h : 1 ≤ s.length) : s.drop (s.length - 1) = [s.getD (s.length - 1) 0] := by
  have hl : s.length - 1 < s.length := by omega
  rw [List.drop_eq_getElem_cons hl, List.drop_eq_nil_of_le (by omega), List.getD_eq_getElem?_getD, List.getElem?_eq_getElem hl]
  rfl

theorem endsSl_at {s : List UInt8} (h : 1 ≤ s.length) : endsSl s = decide ((s.getD (s.length - 1) 0) = 47) := by
  unfold endsSl
  rw [List.getLast?_eq_getElem?, List.getD_eq_getElem?_getD, List.getElem?_eq_getElem (show s.length - 1 < s.length by omega)]
  simp

theorem hasSuffix_eq (s : List UInt8) (hs : s.length < 4611686018427387904) : strings_HasSuffix s [47] = some (endsSl s) := by
  unfold strings_HasSuffix stringslite_HasSuffix
  by_cases h : 1 ≤ s.length
  · have hd : decide (((([47] : List UInt8).length : Nat) : Int) ≤ (s.length : Int)) = true := by simp; omega
    have ew : IntKind.wrap IntKind.i64 ((s.length : Int) - ((([47] : List UInt8).length : Nat) : Int)) = ((s.length - 1 : Nat) : Int) := by
      rw [w64 (by simp; omega) (by simp; omega)]; simp; omega
    simp only [hd, cond_true, ew, Int.toNat_natCast, List.take_length, drop_last h, endsSl_at h]
    rw [if_pos (by omega)]
    simp
  · have h0 : s = [] := List.eq_nil_of_length_eq_zero (by omega)
    subst h0
    rfl

theorem u8_47 (c : UInt8) : ((c.toNat : Int) = 47) = (c = 47) := propext ⟨fun h => UInt8.toNat_inj.mp (by have : (47 : UInt8).toNat = 47 := rfl; omega), fun h => by subst h; rfl⟩

end Go.Cellar
