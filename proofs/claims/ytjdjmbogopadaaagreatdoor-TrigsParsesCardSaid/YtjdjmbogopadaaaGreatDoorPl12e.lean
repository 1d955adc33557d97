/- How interests stand to one another, and which may be. No condition. -/
import Derived.Test.YtjdjmbogopadaaaGreatDoorPl12d
set_option linter.unusedSimpArgs false
set_option linter.unusedVariables false
set_option maxRecDepth 4000
namespace Go.Cellar
open Go

theorem cmpB_less : ∀ (a b : List UInt8), (cmpB a b < 0 ↔ Go.Op.bytesLess a b = true) ∧ (cmpB a b = 0 ↔ a = b) ∧ (0 < cmpB a b ↔ Go.Op.bytesLess b a = true)
  | [], [] => by simp [cmpB, Go.Op.bytesLess]
  | [], _ :: _ => by simp [cmpB, Go.Op.bytesLess]
  | _ :: _, [] => by simp [cmpB, Go.Op.bytesLess]
  | x :: a, y :: b => by
    obtain ⟨h1, h2, h3⟩ := cmpB_less a b
    unfold cmpB Go.Op.bytesLess
    by_cases hxy : x.toNat < y.toNat
    · have h4 : x < y := hxy
      have h5 : ¬ y < x := fun h => by have : y.toNat < x.toNat := h; omega
      have h6 : ¬ x = y := fun h => by subst h; omega
      have h7 : ¬ y = x := fun h => h6 h.symm
      simp [hxy, h4, h5, h6, h7]
    · by_cases hyx : y.toNat < x.toNat
      · have h4 : y < x := hyx
        have h5 : ¬ x < y := hxy
        have h6 : ¬ x = y := fun h => by subst h; omega
        have h7 : ¬ y = x := fun h => h6 h.symm
        simp [hxy, hyx, h4, h5, h6, h7]
      · have h6 : x = y := UInt8.toNat_inj.mp (by omega)
        subst h6
        have h5 : ¬ x < x := hxy
        simp [hxy, h5, h1, h2, h3]

abbrev Nt := List UInt8 × List UInt8 × Bool
def zN : Nt := ([], [], false)

def lessN (a b : Nt) : Bool := Go.Op.bytesLess a.1 b.1 || (decide (a.1 = b.1) && Go.Op.bytesLess a.2.1 b.2.1)
def cmpN (a b : Nt) : Int := if cmpB a.1 b.1 = 0 then cmpB a.2.1 b.2.1 else cmpB a.1 b.1

theorem cmpN_neg (a b : Nt) : decide (0 ≤ cmpN a b) = !lessN a b := by
  obtain ⟨h1, h2, h3⟩ := cmpB_less a.1 b.1
  obtain ⟨g1, g2, g3⟩ := cmpB_less a.2.1 b.2.1
  unfold cmpN lessN
  by_cases h : cmpB a.1 b.1 = 0
  · have e := h2.mp h
    have n : Go.Op.bytesLess a.1 b.1 = false := by
      cases hh : Go.Op.bytesLess a.1 b.1 with
      | false => rfl
      | true => have := h1.mpr hh; omega
    rw [if_pos h, n, decide_eq_true e]
    simp only [Bool.false_or, Bool.true_and]
    cases hh : Go.Op.bytesLess a.2.1 b.2.1 with
    | false =>
      have : ¬ cmpB a.2.1 b.2.1 < 0 := fun q => by rw [g1.mp q] at hh; cases hh
      rw [decide_eq_true (by omega)]; rfl
    | true =>
      have := g1.mpr hh
      rw [decide_eq_false (by omega)]; rfl
  · have e : ¬ a.1 = b.1 := fun q => h (h2.mpr q)
    rw [if_neg h, decide_eq_false e]
    simp only [Bool.false_and, Bool.or_false]
    cases hh : Go.Op.bytesLess a.1 b.1 with
    | false =>
      have : ¬ cmpB a.1 b.1 < 0 := fun q => by rw [h1.mp q] at hh; cases hh
      rw [decide_eq_true (by omega)]; rfl
    | true =>
      have := h1.mpr hh
      rw [decide_eq_false (by omega)]; rfl

theorem cmpN_pos (a b : Nt) : decide (0 < cmpN a b) = lessN b a := by
  obtain ⟨h1, h2, h3⟩ := cmpB_less a.1 b.1
  obtain ⟨g1, g2, g3⟩ := cmpB_less a.2.1 b.2.1
  unfold cmpN lessN
  by_cases h : cmpB a.1 b.1 = 0
  · have e := h2.mp h
    have n : Go.Op.bytesLess b.1 a.1 = false := by
      cases hh : Go.Op.bytesLess b.1 a.1 with
      | false => rfl
      | true => have := h3.mpr hh; omega
    rw [if_pos h, n, decide_eq_true e.symm]
    simp only [Bool.false_or, Bool.true_and]
    cases hh : Go.Op.bytesLess b.2.1 a.2.1 with
    | false =>
      have : ¬ 0 < cmpB a.2.1 b.2.1 := fun q => by rw [g3.mp q] at hh; cases hh
      rw [decide_eq_false this]
    | true => rw [decide_eq_true (g3.mpr hh)]
  · have e : ¬ b.1 = a.1 := fun q => h (h2.mpr q.symm)
    rw [if_neg h, decide_eq_false e]
    simp only [Bool.false_and, Bool.or_false]
    cases hh : Go.Op.bytesLess b.1 a.1 with
    | false =>
      have : ¬ 0 < cmpB a.1 b.1 := fun q => by rw [h3.mp q] at hh; cases hh
      rw [decide_eq_false this]
    | true => rw [decide_eq_true (h3.mpr hh)]

theorem cmpN_zero (a b : Nt) : decide (cmpN a b = 0) = decide (a.1 = b.1 ∧ a.2.1 = b.2.1) := by
  obtain ⟨h1, h2, h3⟩ := cmpB_less a.1 b.1
  obtain ⟨g1, g2, g3⟩ := cmpB_less a.2.1 b.2.1
  unfold cmpN
  by_cases h : cmpB a.1 b.1 = 0
  · rw [if_pos h]
    have e := h2.mp h
    simp only [e, true_and, g2]
  · rw [if_neg h, decide_eq_false h, decide_eq_false fun q => h (h2.mpr q.1)]

theorem compare_eq (a1 a2 : List UInt8) (a3 : Bool) (b1 b2 : List UInt8) (b3 : Bool) : trigs_compare a1 a2 a3 b1 b2 b3 = some (cmpN (a1, a2, a3) (b1, b2, b3)) := by
  unfold trigs_compare strings_Compare bytealg_CompareString cmpN
  simp only [Option.bind_some]
  by_cases h : cmpB a1 b1 = 0
  · rw [decide_eq_true h, if_pos h]; rfl
  · rw [decide_eq_false h, if_neg h]; rfl

theorem less_eq (a1 a2 : List UInt8) (a3 : Bool) (b1 b2 : List UInt8) (b3 : Bool) : cellarerref12_less a1 a2 a3 b1 b2 b3 = some (lessN (a1, a2, a3) (b1, b2, b3)) := by
  unfold cellarerref12_less lessN
  cases Go.Op.bytesLess a1 b1 <;> by_cases h : a1 = b1 <;> simp [h]

def trigV (s : List UInt8) : Bool := nameV s || rightV s

theorem trig_eq (s : List UInt8) (hs : s.length < 1000000) : status_Trigger s = some (trigV s) := by
  unfold status_Trigger trigV
  rw [name_eq]
  simp only [Option.bind_some]
  cases nameV s
  · simp only [cond_false, right_eq s hs, Option.bind_some, Bool.false_or]
  · rfl

theorem refTrig_eq (s : List UInt8) (hs : s.length < 1000000) : cellarerref08_Trigger s = some (trigV s) := by
  unfold cellarerref08_Trigger trigV
  rw [refName_eq s (by omega)]
  simp only [Option.bind_some]
  cases nameV s
  · simp only [cond_false, refRight_eq s hs, Option.bind_some, Bool.false_or]
  · rfl

def ShN (l : List Nt) : Prop := l.length ≤ 10000 ∧ ∀ x ∈ l, x.1.length ≤ 10000 ∧ x.2.1.length ≤ 10000

def ordN (l : List Nt) (k : Nat) (x : Nt) : Bool := decide (k = 0) || lessN (l.getD (k - 1) ([], [], false)) x
def chkN (l : List Nt) (k : Nat) (x : Nt) : Bool := trigV x.1 && (nameV x.2.1 && ordN l k x)
def checkN (l : List Nt) : Int := if 64 < l.length then 22 else if allFrom (chkN l) 0 l = true then 0 else 1

theorem checkN_loop (l : List Nt) (hl : ShN l) : iter (trigs_Check_b0 l l (l.length : Int)) (0 : Int) = some (if allFrom (chkN l) 0 l = true then .inr () else .inl ()) := by
  refine all_loop (trigs_Check_b0 l l (l.length : Int)) (chkN l) l (fun k hk => ?_) (fun k x r h => ?_) l 0 rfl
  · unfold trigs_Check_b0
    simp [show ¬ k < l.length by omega]
  · obtain ⟨g1, g2, g3⟩ := drop_cons h ([], [], false)
    have hx : x ∈ l := List.mem_of_mem_drop (by rw [h]; simp)
    have hsh := hl.2 x hx
    have hl1 := hl.1
    unfold trigs_Check_b0 chkN
    simp only [natlt, g1, decide_true, cond_true, Int.natCast_nonneg, true_and, if_true, Int.toNat_natCast, g2, trig_eq x.1 (by omega), name_eq, compare_eq, cmpN_neg, Option.bind_some, kplus g1 (by omega)]
    cases hr : trigV x.1
    · simp
    · cases hn : nameV x.2.1
      · simp
      · simp only [Bool.not_true, cond_false, Bool.true_and]
        by_cases hk : k = 0
        · subst hk
          simp [ordN]
        · have e : IntKind.wrap IntKind.i64 ((k : Int) - 1) = ((k - 1 : Nat) : Int) := by rw [w64 (by omega) (by omega)]; omega
          simp only [show ((0 : Int) < (k : Int)) by omega, decide_true, cond_true, e, Int.natCast_nonneg, true_and, natlt, show k - 1 < l.length by omega, if_true, Int.toNat_natCast, ordN, hk, decide_false, Bool.false_or]
          have e2 : lessN (((l.getD (k - 1) ([], [], false)).fst, (l.getD (k - 1) ([], [], false)).snd.fst, (l.getD (k - 1) ([], [], false)).snd.snd)) (x.1, x.2.1, x.2.2) = lessN (l.getD (k - 1) ([], [], false)) x := rfl
          rw [e2]
          cases lessN (l.getD (k - 1) ([], [], false)) x <;> simp

theorem refCheckN_loop (l : List Nt) (hl : ShN l) : iter (cellarerref12_Check_b0 l) (0 : Int) = some (if allFrom (chkN l) 0 l = true then .inr () else .inl ()) := by
  refine all_loop (cellarerref12_Check_b0 l) (chkN l) l (fun k hk => ?_) (fun k x r h => ?_) l 0 rfl
  · unfold cellarerref12_Check_b0
    simp [show ¬ k < l.length by omega]
  · obtain ⟨g1, g2, g3⟩ := drop_cons h ([], [], false)
    have hx : x ∈ l := List.mem_of_mem_drop (by rw [h]; simp)
    have hsh := hl.2 x hx
    have hl1 := hl.1
    unfold cellarerref12_Check_b0 chkN
    simp only [natlt, g1, decide_true, cond_true, Int.natCast_nonneg, true_and, if_true, Int.toNat_natCast, g2, refTrig_eq x.1 (by omega), refName_eq x.2.1 (by omega), less_eq, Option.bind_some, kplus g1 (by omega)]
    cases hr : trigV x.1
    · simp
    · cases hn : nameV x.2.1
      · simp
      · simp only [Bool.not_true, cond_false, Bool.true_and]
        by_cases hk : k = 0
        · subst hk
          simp [ordN]
        · have e : IntKind.wrap IntKind.i64 ((k : Int) - 1) = ((k - 1 : Nat) : Int) := by rw [w64 (by omega) (by omega)]; omega
          simp only [show ((0 : Int) < (k : Int)) by omega, decide_true, cond_true, e, Int.natCast_nonneg, true_and, natlt, show k - 1 < l.length by omega, if_true, Int.toNat_natCast, ordN, hk, decide_false, Bool.false_or]
          have e2 : lessN (((l.getD (k - 1) ([], [], false)).fst, (l.getD (k - 1) ([], [], false)).snd.fst, (l.getD (k - 1) ([], [], false)).snd.snd)) (x.1, x.2.1, x.2.2) = lessN (l.getD (k - 1) ([], [], false)) x := rfl
          rw [e2]
          cases lessN (l.getD (k - 1) ([], [], false)) x <;> simp

theorem checkN_eq (l : List Nt) (hl : ShN l) : trigs_Check l = some (checkN l) := by
  unfold trigs_Check checkN
  by_cases h : 64 < l.length
  · simp [h, show (64 : Int) < (l.length : Int) by omega]
  · rw [checkN_loop l hl]
    simp only [h, show ¬ (64 : Int) < (l.length : Int) by omega, decide_false, cond_false, if_false]
    cases allFrom (chkN l) 0 l <;> rfl

theorem refCheckN_eq (l : List Nt) (hl : ShN l) : cellarerref12_Check l = some (checkN l) := by
  unfold cellarerref12_Check checkN
  by_cases h : 64 < l.length
  · simp [h, show (64 : Int) < (l.length : Int) by omega]
  · rw [refCheckN_loop l hl]
    simp only [h, show ¬ (64 : Int) < (l.length : Int) by omega, decide_false, cond_false, if_false]
    cases allFrom (chkN l) 0 l <;> rfl

end Go.Cellar
