/- Which texts may be names; which is under which. No condition. -/
import Derived.Test.YtapokbncaidgdaaDoorPl0
import Derived.Test.YtapokbncaidgdaaDoorFun19
set_option linter.unusedSimpArgs false
set_option linter.unusedVariables false
set_option maxRecDepth 4000
namespace Go.Cellar
open Go

def lastIdx (c : Int) : List UInt8 → Int → Int → Int
  | [], _, o => o
  | x :: r, i, o => lastIdx c r (i + 1) (if (x.toNat : Int) = c then i else o)

theorem last_lt (c : Int) : ∀ (l : List UInt8) (i o : Int), o < i → lastIdx c l i o < i + l.length := by
  intro l
  induction l with
  | nil => intro i o h; simpa [lastIdx] using h
  | cons x r ih =>
    intro i o h
    simp only [lastIdx, List.length_cons]
    have := ih (i + 1) (if (x.toNat : Int) = c then i else o) (by split <;> omega)
    omega

theorem lastIdx_snoc (c : Int) (x : UInt8) : ∀ (l : List UInt8) (i o : Int), lastIdx c (l ++ [x]) i o = if (x.toNat : Int) = c then i + l.length else lastIdx c l i o := by
  intro l
  induction l with
  | nil => intro i o; simp [lastIdx]
  | cons y r ih =>
    intro i o
    simp only [List.cons_append, lastIdx, ih, List.length_cons]
    split
    · omega
    · rfl

theorem LastIndex_loop (s : List UInt8) (c : Int) (hs : s.length < 4611686018427387904) : ∀ (k : Nat), k ≤ s.length →
    iter (bytealg_LastIndexByteString_b0 s c) ((k : Int) - 1) = some (if 0 ≤ lastIdx c (s.take k) 0 (-1) then .inl (lastIdx c (s.take k) 0 (-1)) else .inr ()) := by
  intro k
  induction k with
  | zero =>
    intro _
    rw [iter_inr (t := .inr ())]
    · simp [lastIdx]
    · unfold bytealg_LastIndexByteString_b0
      simp
  | succ k ih =>
    intro hk
    have e : s.take (k + 1) = s.take k ++ [s.getD k 0] := by
      rw [List.take_add_one, List.getD_eq_getElem?_getD, List.getElem?_eq_getElem (by omega)]; rfl
    have e1 : ((k + 1 : Nat) : Int) - 1 = (k : Int) := by omega
    rw [e1, e, lastIdx_snoc]
    have hl : (s.take k).length = k := by rw [List.length_take]; omega
    by_cases hx : ((s.getD k 0).toNat : Int) = c
    · rw [iter_inr (t := .inl (k : Int)), if_pos hx, hl]
      · simp
      · unfold bytealg_LastIndexByteString_b0
        simp only [natlt, Int.natCast_nonneg, decide_true, cond_true, show k < s.length by omega, and_self, if_true, Int.toNat_natCast, hx]
    · rw [iter_inl (s' := (k : Int) - 1), ih (by omega)]
      · simp only [hx, if_false]
      · unfold bytealg_LastIndexByteString_b0
        simp only [natlt, Int.natCast_nonneg, decide_true, cond_true, show k < s.length by omega, and_self, if_true, Int.toNat_natCast, hx, decide_false, cond_false]
        rw [w64 (by omega) (by omega)]

theorem lastIdx_neg (c : Int) : ∀ (l : List UInt8) (i : Int), 0 ≤ i → ¬ 0 ≤ lastIdx c l i (-1) → lastIdx c l i (-1) = -1 := by
  have pos : ∀ (l : List UInt8) (i o : Int), 0 ≤ i → 0 ≤ o → 0 ≤ lastIdx c l i o := by
    intro l
    induction l with
    | nil => intro i o _ h; exact h
    | cons x r ih => intro i o hi ho; simp only [lastIdx]; exact ih _ _ (by omega) (by split <;> assumption)
  intro l
  induction l with
  | nil => intro i _ _; rfl
  | cons x r ih =>
    intro i hi h
    simp only [lastIdx] at h ⊢
    by_cases hx : (x.toNat : Int) = c
    · rw [if_pos hx] at h
      exact absurd (pos _ _ _ (by omega) hi) h
    · rw [if_neg hx] at h ⊢
      exact ih _ (by omega) h

theorem LastIndex2 (s : List UInt8) (c : Int) (hs : s.length < 4611686018427387904) : strings_LastIndexByte s c = some (lastIdx c s 0 (-1)) := by
  unfold strings_LastIndexByte bytealg_LastIndexByteString
  rw [w64 (by omega) (by omega), LastIndex_loop s c hs s.length (Nat.le_refl _), List.take_length]
  by_cases h : 0 ≤ lastIdx c s 0 (-1)
  · simp [h]
  · simp [h, lastIdx_neg c s 0 (by omega) h]

def isWord (c : UInt8) : Bool := (decide (97 ≤ c.toNat) && decide (c.toNat ≤ 122)) || (decide (48 ≤ c.toNat) && decide (c.toNat ≤ 57))

def isMark (c : UInt8) : Bool := decide (c.toNat = 43) || decide (c.toNat = 45) || decide (c.toNat = 46)

def nameAt (k : Nat) (c : UInt8) : Bool := isWord c || (decide (k ≠ 0) && isMark c)

def nameV (s : List UInt8) : Bool := decide (1 ≤ s.length) && decide (s.length ≤ 60) && allFrom nameAt 0 s

theorem ile (a : Nat) (n : Nat) : (((a : Nat) : Int) ≤ (n : Int)) = (a ≤ n) := propext (by omega)

theorem il97 (n : Nat) : ((97 : Int) ≤ (n : Int)) = (97 ≤ n) := propext (by omega)

theorem il122 (n : Nat) : ((n : Int) ≤ (122 : Int)) = (n ≤ 122) := propext (by omega)

theorem il48 (n : Nat) : ((48 : Int) ≤ (n : Int)) = (48 ≤ n) := propext (by omega)

theorem il57 (n : Nat) : ((n : Int) ≤ (57 : Int)) = (n ≤ 57) := propext (by omega)

theorem ie43 (n : Nat) : ((n : Int) = (43 : Int)) = (n = 43) := propext (by omega)

theorem ie45 (n : Nat) : ((n : Int) = (45 : Int)) = (n = 45) := propext (by omega)

theorem ie46 (n : Nat) : ((n : Int) = (46 : Int)) = (n = 46) := propext (by omega)

theorem ie47 (n : Nat) : ((n : Int) = (47 : Int)) = (n = 47) := propext (by omega)

theorem ie0 (n : Nat) : ((n : Int) = (0 : Int)) = (n = 0) := propext (by omega)

theorem name_eq (s : List UInt8) : path_Name s = some (nameV s) := by
  unfold path_Name nameV
  by_cases h0 : s.length = 0
  · simp [h0]
  · by_cases h1 : 60 < s.length
    · simp [h0, show (60 : Int) < (s.length : Int) by omega, show ¬ s.length ≤ 60 by omega]
    · have := all_loop (path_Name_b0 s (s.length : Int)) nameAt s (fun k hk => by
          unfold path_Name_b0
          simp [show ¬ k < s.length by omega]) (fun k c r h => by
          unfold path_Name_b0
          obtain ⟨g1, g2, _⟩ := drop_cons h 0
          simp only [natlt, g1, decide_true, cond_true, Int.natCast_nonneg, true_and, if_true, Int.toNat_natCast, g2, kplus g1 (by omega), il97, il122, il48, il57, ie43, ie45, ie46, ie0, nameAt, isWord, isMark]
          by_cases h1 : 97 ≤ c.toNat <;> by_cases h2 : c.toNat ≤ 122 <;> by_cases h6 : 48 ≤ c.toNat <;> by_cases h7 : c.toNat ≤ 57 <;> by_cases hk : k = 0 <;> by_cases h3 : c.toNat = 43 <;> by_cases h4 : c.toNat = 45 <;> by_cases h5 : c.toNat = 46 <;> first | (exfalso; omega) | simp [h1, h2, h6, h7, hk, h3, h4, h5]) s 0 rfl
      simp only [show ¬ (s.length : Int) = 0 by omega, show ¬ (60 : Int) < (s.length : Int) by omega, decide_false, cond_false, Option.bind_some, Sum.elim_inr]
      rw [show ((0 : Int)) = ((0 : Nat) : Int) from rfl, this]
      have h2 : 1 ≤ s.length := by omega
      have h3 : s.length ≤ 60 := by omega
      cases allFrom nameAt 0 s <;> simp [h2, h3]

theorem refName_eq (s : List UInt8) (hs : s.length < 4611686018427387904) : cellarerref02_Name s = some (nameV s) := by
  unfold cellarerref02_Name nameV
  have := all_loop (cellarerref02_Name_b0 s) nameAt s (fun k hk => by
      unfold cellarerref02_Name_b0
      simp [show ¬ k < s.length by omega]) (fun k c r h => by
      unfold cellarerref02_Name_b0
      obtain ⟨g1, g2, _⟩ := drop_cons h 0
      simp only [natlt, g1, decide_true, cond_true, Int.natCast_nonneg, true_and, if_true, Int.toNat_natCast, g2, kplus g1 (by omega), il97, il122, il48, il57, ie43, ie45, ie46, ie0, nameAt, isWord, isMark]
      by_cases h1 : 97 ≤ c.toNat <;> by_cases h2 : c.toNat ≤ 122 <;> by_cases h6 : 48 ≤ c.toNat <;> by_cases h7 : c.toNat ≤ 57 <;> by_cases hk : k = 0 <;> by_cases h3 : c.toNat = 43 <;> by_cases h4 : c.toNat = 45 <;> by_cases h5 : c.toNat = 46 <;> first | (exfalso; omega) | simp [h1, h2, h6, h7, hk, h3, h4, h5]) s 0 rfl
  rw [show ((0 : Int)) = ((0 : Nat) : Int) from rfl, this]
  by_cases h2 : 1 ≤ s.length
  · by_cases h3 : s.length ≤ 60
    · cases allFrom nameAt 0 s <;> simp [h2, h3, show (1 : Int) ≤ (s.length : Int) by omega, show (s.length : Int) ≤ 60 by omega]
    · cases allFrom nameAt 0 s <;> simp [h2, h3, show (1 : Int) ≤ (s.length : Int) by omega, show ¬ (s.length : Int) ≤ 60 by omega]
  · cases allFrom nameAt 0 s <;> simp [h2, show ¬ (1 : Int) ≤ (s.length : Int) by omega]

theorem hasPrefix_eq (s p : List UInt8) : strings_HasPrefix s p = some (decide (s.take p.length = p)) := by
  unfold strings_HasPrefix stringslite_HasPrefix
  by_cases h : p.length ≤ s.length
  · have hd : decide ((p.length : Int) ≤ (s.length : Int)) = true := by simp; omega
    simp only [hd, cond_true]
    rw [if_pos (by omega)]
    simp [Int.toNat_natCast]
  · have : ¬ s.take p.length = p := fun e => by
      have := congrArg List.length e
      rw [List.length_take] at this
      omega
    simp [show ¬ ((p.length : Int) ≤ (s.length : Int)) by omega, this]

def endsSl (s : List UInt8) : Bool := decide (s.getLast? = some 47)

theorem drop_last {s : List UInt8} (h : 1 ≤ s.length) : s.drop (s.length - 1) = [s.getD (s.length - 1) 0] := by
  have hl : s.length - 1 < s.length := by omega
  rw [List.drop_eq_getElem_cons hl, List.drop_eq_nil_of_le (by omega), List.getD_eq_getElem?_getD, List.getElem?_eq_getElem hl]
  rfl

theorem endsSl_at {s : List UInt8} (h : 1 ≤ s.length) : endsSl s = decide ((s.getD (s.length - 1) 0) = 47) := by
  unfold endsSl
  rw [List.getLast?_eq_getElem?, List.getD_eq_getElem?_getD, List.getElem?_eq_getElem (show s.length - 1 < s.length by omega)]
  simp

theorem hasSuffix_eq (s : List UInt8) (hs : s.length < 4611686018427387904) : strings_HasSuffix s [47] = some (endsSl s) := by
  unfold strings_HasSuffix stringslite_HasSuffix
  by_cases h : 1 ≤ s.length
  · have hd : decide (((([47] : List UInt8).length : Nat) : Int) ≤ (s.length : Int)) = true := by simp; omega
    have ew : IntKind.wrap IntKind.i64 ((s.length : Int) - ((([47] : List UInt8).length : Nat) : Int)) = ((s.length - 1 : Nat) : Int) := by
      rw [w64 (by simp; omega) (by simp; omega)]; simp; omega
    simp only [hd, cond_true, ew, Int.toNat_natCast, List.take_length, drop_last h, endsSl_at h]
    rw [if_pos (by omega)]
    simp
  · have h0 : s = [] := List.eq_nil_of_length_eq_zero (by omega)
    subst h0
    rfl

def joinP (dir name : List UInt8) : List UInt8 := if endsSl dir = true then dir ++ name else dir ++ [47] ++ name

theorem join_eq (dir name : List UInt8) (h1 : dir.length < 1000000) (h2 : name.length < 1000000) : path_Join dir name = some (joinP dir name) := by
  unfold path_Join joinP
  rw [hasSuffix_eq dir (by omega)]
  by_cases h : endsSl dir = true
  · simp only [h, Option.bind_some, cond_true, if_true]
    rw [if_pos (by omega)]
  · have hf : endsSl dir = false := by simpa using h
    simp only [hf, Option.bind_some, cond_false, Bool.false_eq_true, if_false]
    rw [if_pos (by simp; omega), if_pos (by simp; omega)]

theorem u8_47 (c : UInt8) : ((c.toNat : Int) = 47) = (c = 47) := propext ⟨fun h => UInt8.toNat_inj.mp (by have : (47 : UInt8).toNat = 47 := rfl; omega), fun h => by subst h; rfl⟩

def underV (dir s : List UInt8) : Bool := decide (s.take (joinP dir []).length = joinP dir []) && decide ((joinP dir []).length < s.length)

theorem under_eq (dir s : List UInt8) (h1 : dir.length < 1000000) : path_Under dir s = some (underV dir s) := by
  unfold path_Under underV
  rw [join_eq dir [] h1 (by simp)]
  simp only [Option.bind_some, hasPrefix_eq, natlt]
  by_cases h : s.take (joinP dir []).length = joinP dir [] <;> simp [h]

theorem refUnder_eq (dir s : List UInt8) (h1 : dir.length < 1000000) : cellarerref02_Under dir s = some (underV dir s) := by
  unfold cellarerref02_Under underV
  rw [if_pos (by simp; omega)]
  have hh : (bif Decidable.decide ((0 : Int) < (↑(List.length dir) : Int)) then
        if (0 : Int) ≤ IntKind.wrap IntKind.i64 ((↑(List.length dir) : Int) - (1 : Int)) ∧ IntKind.wrap IntKind.i64 ((↑(List.length dir) : Int) - (1 : Int)) < (↑(List.length dir) : Int) then
          bif Decidable.decide ((↑(UInt8.toNat (List.getD dir (Int.toNat (IntKind.wrap IntKind.i64 ((↑(List.length dir) : Int) - (1 : Int)))) (0 : UInt8))) : Int) = (47 : Int)) then
            some (dir)
          else
            some (dir ++ [(47 : UInt8)])
        else none
      else
        some (dir ++ [(47 : UInt8)])) = some (joinP dir []) := by
    unfold joinP
    by_cases h : 1 ≤ dir.length
    · simp only [show (0 : Int) < (dir.length : Int) by omega, decide_true, cond_true]
      rw [w64 (by omega) (by omega), if_pos (by omega), show ((dir.length : Int) - 1).toNat = dir.length - 1 by omega, endsSl_at h]
      simp only [u8_47]
      by_cases hc : dir.getD (dir.length - 1) 0 = 47
      · simp only [hc, decide_true, cond_true, if_true, List.append_nil]
      · simp only [hc, decide_false, cond_false, Bool.false_eq_true, if_false, List.append_nil]
    · have h0 : dir = [] := List.eq_nil_of_length_eq_zero (by omega)
      subst h0
      rfl
  rw [hh]
  simp only [Option.bind_some, natlt]
  by_cases h : (joinP dir []).length < s.length
  · simp only [h, decide_true, cond_true]
    rw [if_pos (by omega), Int.toNat_natCast]
    simp
  · simp [h]

theorem joinP_len (dir : List UInt8) : dir.length ≤ (joinP dir []).length := by
  unfold joinP
  split <;> simp

end Go.Cellar
