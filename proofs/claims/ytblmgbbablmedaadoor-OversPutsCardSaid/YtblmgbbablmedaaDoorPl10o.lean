/- Overrides, by plain lists: which may be, where they are, the text. No condition. -/
import Derived.Test.YtblmgbbablmedaaDoorPl10i
import Derived.Test.YtblmgbbablmedaaDoorPl10l
import Derived.Test.YtblmgbbablmedaaDoorPl10w
set_option linter.unusedSimpArgs false
set_option linter.unusedVariables false
set_option maxRecDepth 4000
namespace Go.Cellar
open Go

abbrev Ov := List UInt8 × Int × Int × Int

theorem awake10 : cellarerlaw10_awake = some true := by kernel_rfl

def zO : Ov := ([], 0, 0, 0)
def metaR (m : Int × Int × Int) : Bool := decide (0 ≤ m.1) && (decide (m.1 ≤ 4095) && (decide (0 ≤ m.2.1) && (decide (m.2.1 ≤ 67108863) && (decide (0 ≤ m.2.2) && decide (m.2.2 ≤ 67108863)))))
def rightO (x : Ov) : Bool := rightV x.1 && metaR x.2

theorem bitsRight_eq (a b c : Int) : bits_Right a b c = some (metaR (a, b, c)) := by
  unfold bits_Right metaR
  by_cases h1 : 0 ≤ a <;> by_cases h2 : a ≤ 4095 <;> by_cases h3 : 0 ≤ b <;> by_cases h4 : b ≤ 67108863 <;> by_cases h5 : 0 ≤ c <;> simp [h1, h2, h3, h4, h5]

theorem refMeta_eq (a b c : Int) : cellarerref01_Right a b c = some (metaR (a, b, c)) := by
  unfold cellarerref01_Right metaR
  by_cases h1 : 0 ≤ a <;> by_cases h2 : a ≤ 4095 <;> by_cases h3 : 0 ≤ b <;> by_cases h4 : b ≤ 67108863 <;> by_cases h5 : 0 ≤ c <;> simp [h1, h2, h3, h4, h5]

theorem ovRight_eq (p : List UInt8) (a b c : Int) (h : p.length ≤ 10000) : overs_Right p a b c = some (rightO (p, a, b, c)) := by
  unfold overs_Right rightO
  rw [right_eq p (by omega), Option.bind_some]
  cases rightV p
  · rfl
  · simp only [cond_true, bitsRight_eq, Option.bind_some, Bool.true_and]

theorem refOvRight_eq (p : List UInt8) (a b c : Int) (h : p.length ≤ 10000) : cellarerref10_Right p a b c = some (rightO (p, a, b, c)) := by
  unfold cellarerref10_Right rightO
  rw [refRight_eq p (by omega), Option.bind_some]
  cases rightV p
  · rfl
  · simp only [cond_true, refMeta_eq, Option.bind_some, Bool.true_and]

def ShO (l : List Ov) : Prop := l.length ≤ 10000 ∧ ∀ x ∈ l, x.1.length ≤ 10000

def ordO (l : List Ov) (k : Nat) (x : Ov) : Bool := decide (k = 0) || Go.Op.bytesLess (l.getD (k - 1) ([], 0, 0, 0)).1 x.1
def chkO (l : List Ov) (k : Nat) (x : Ov) : Bool := rightO x && ordO l k x
def checkO (l : List Ov) : Int := if 64 < l.length then 22 else if allFrom (chkO l) 0 l = true then 0 else 1

theorem checkO_loop (l : List Ov) (hl : ShO l) : iter (overs_Check_b0 l l (l.length : Int)) (0 : Int) = some (if allFrom (chkO l) 0 l = true then .inr () else .inl ()) := by
  refine all_loop (overs_Check_b0 l l (l.length : Int)) (chkO l) l (fun k hk => ?_) (fun k x r h => ?_) l 0 rfl
  · unfold overs_Check_b0
    simp [show ¬ k < l.length by omega]
  · obtain ⟨g1, g2, g3⟩ := drop_cons h ([], 0, 0, 0)
    have hx : x ∈ l := List.mem_of_mem_drop (by rw [h]; simp)
    have hsh := hl.2 x hx
    have hl1 := hl.1
    unfold overs_Check_b0 chkO
    simp only [natlt, g1, decide_true, cond_true, Int.natCast_nonneg, true_and, if_true, Int.toNat_natCast, g2, ovRight_eq x.1 x.2.1 x.2.2.1 x.2.2.2 hsh, Option.bind_some, kplus g1 (by omega)]
    cases hr : rightO (x.1, x.2.1, x.2.2.1, x.2.2.2)
    · have hr' : rightO x = false := hr
      simp [hr']
    · have hr' : rightO x = true := hr
      simp only [hr', Bool.not_true, cond_false, Bool.true_and]
      by_cases hk : k = 0
      · subst hk
        simp [ordO]
      · have e : IntKind.wrap IntKind.i64 ((k : Int) - 1) = ((k - 1 : Nat) : Int) := by rw [w64 (by omega) (by omega)]; omega
        simp only [show ((0 : Int) < (k : Int)) by omega, decide_true, cond_true, e, Int.natCast_nonneg, true_and, natlt, show k - 1 < l.length by omega, if_true, Int.toNat_natCast, ordO, hk, decide_false, Bool.false_or]
        cases Go.Op.bytesLess (l.getD (k - 1) ([], 0, 0, 0)).1 x.1 <;> simp

theorem refCheckO_loop (l : List Ov) (hl : ShO l) : iter (cellarerref10_Check_b0 l) (0 : Int) = some (if allFrom (chkO l) 0 l = true then .inr () else .inl ()) := by
  refine all_loop (cellarerref10_Check_b0 l) (chkO l) l (fun k hk => ?_) (fun k x r h => ?_) l 0 rfl
  · unfold cellarerref10_Check_b0
    simp [show ¬ k < l.length by omega]
  · obtain ⟨g1, g2, g3⟩ := drop_cons h ([], 0, 0, 0)
    have hx : x ∈ l := List.mem_of_mem_drop (by rw [h]; simp)
    have hsh := hl.2 x hx
    have hl1 := hl.1
    unfold cellarerref10_Check_b0 chkO
    simp only [natlt, g1, decide_true, cond_true, Int.natCast_nonneg, true_and, if_true, Int.toNat_natCast, g2, refOvRight_eq x.1 x.2.1 x.2.2.1 x.2.2.2 hsh, Option.bind_some, kplus g1 (by omega)]
    cases hr : rightO (x.1, x.2.1, x.2.2.1, x.2.2.2)
    · have hr' : rightO x = false := hr
      simp [hr']
    · have hr' : rightO x = true := hr
      simp only [hr', Bool.not_true, cond_false, Bool.true_and]
      by_cases hk : k = 0
      · subst hk
        simp [ordO]
      · have e : IntKind.wrap IntKind.i64 ((k : Int) - 1) = ((k - 1 : Nat) : Int) := by rw [w64 (by omega) (by omega)]; omega
        simp only [show ((0 : Int) < (k : Int)) by omega, decide_true, cond_true, e, Int.natCast_nonneg, true_and, natlt, show k - 1 < l.length by omega, if_true, Int.toNat_natCast, ordO, hk, decide_false, Bool.false_or]
        cases Go.Op.bytesLess (l.getD (k - 1) ([], 0, 0, 0)).1 x.1 <;> simp

theorem checkO_eq (l : List Ov) (hl : ShO l) : overs_Check l = some (checkO l) := by
  unfold overs_Check checkO
  by_cases h : 64 < l.length
  · simp [h, show (64 : Int) < (l.length : Int) by omega]
  · rw [checkO_loop l hl]
    simp only [h, show ¬ (64 : Int) < (l.length : Int) by omega, decide_false, cond_false, if_false]
    cases allFrom (chkO l) 0 l <;> rfl

theorem refCheckO_eq (l : List Ov) (hl : ShO l) : cellarerref10_Check l = some (checkO l) := by
  unfold cellarerref10_Check checkO
  by_cases h : 64 < l.length
  · simp [h, show (64 : Int) < (l.length : Int) by omega]
  · rw [refCheckO_loop l hl]
    simp only [h, show ¬ (64 : Int) < (l.length : Int) by omega, decide_false, cond_false, if_false]
    cases allFrom (chkO l) 0 l <;> rfl

theorem checkO_zero {l : List Ov} (h : checkO l = 0) : l.length ≤ 64 ∧ ∀ x ∈ l, rightO x = true := by
  unfold checkO at h
  split at h
  · cases h
  · rename_i h64
    split at h
    · rename_i ha
      refine ⟨by omega, fun x hx => ?_⟩
      obtain ⟨i, hi⟩ := List.getElem?_of_mem hx
      have := (allFrom_iff (chkO l) l 0).mp ha i x hi
      unfold chkO at this
      simp only [Bool.and_eq_true] at this
      exact this.1
    · cases h

/-! ### where one is -/

def firstO (p : List UInt8) : List Ov → Nat → Option Nat
  | [], _ => none
  | x :: r, k => if x.1 = p then some k else firstO p r (k + 1)

def idxO : Option Nat → Int
  | some i => (i : Int)
  | none => -1

theorem findO_loop (l : List Ov) (p : List UInt8) (hl : l.length ≤ 10000) : ∀ (r : List Ov) (k : Nat), l.drop k = r →
    iter (api_Over__b0 l (l.length : Int)) ((k : Int), p) = some (match firstO p r k with | some i => .inl ((i : Int), p) | none => .inr p) := by
  intro r
  induction r with
  | nil =>
    intro k h
    have := drop_nil h
    rw [iter_inr (t := .inr p)]
    · rfl
    · unfold api_Over__b0
      simp [show ¬ k < l.length by omega]
  | cons x r ih =>
    intro k h
    obtain ⟨g1, g2, g3⟩ := drop_cons h ([], 0, 0, 0)
    by_cases hx : x.1 = p
    · rw [iter_inr (t := .inl ((k : Int), p))]
      · simp [firstO, hx]
      · unfold api_Over__b0 overs_Find_1
        simp only [natlt, g1, decide_true, cond_true, Int.natCast_nonneg, true_and, if_true, Int.toNat_natCast, g2, Option.bind_some, hx]
    · rw [iter_inl (s' := (((k + 1 : Nat) : Int), p)), ih (k + 1) g3]
      · simp [firstO, hx]
      · unfold api_Over__b0 overs_Find_1
        simp only [natlt, g1, decide_true, cond_true, Int.natCast_nonneg, true_and, if_true, Int.toNat_natCast, g2, Option.bind_some, hx, decide_false, cond_false, kplus g1 (by omega)]

theorem findO_eq (l : List Ov) (p : List UInt8) (hl : l.length ≤ 10000) : overs_Find l p = some (idxO (firstO p l 0)) := by
  unfold overs_Find api_Over_
  have h := findO_loop l p hl l 0 rfl
  rw [show ((0 : Int), p) = (((0 : Nat) : Int), p) from rfl, h]
  cases firstO p l 0 <;> rfl

theorem refFindO_loop (l : List Ov) (p : List UInt8) (hl : l.length ≤ 10000) : ∀ (r : List Ov) (k : Nat), l.drop k = r →
    iter (cellarerref10_Find_b0 l p) (k : Int) = some (match firstO p r k with | some i => .inl (i : Int) | none => .inr ()) := by
  intro r
  induction r with
  | nil =>
    intro k h
    have := drop_nil h
    rw [iter_inr (t := .inr ())]
    · rfl
    · unfold cellarerref10_Find_b0
      simp [show ¬ k < l.length by omega]
  | cons x r ih =>
    intro k h
    obtain ⟨g1, g2, g3⟩ := drop_cons h ([], 0, 0, 0)
    by_cases hx : x.1 = p
    · rw [iter_inr (t := .inl (k : Int))]
      · simp [firstO, hx]
      · unfold cellarerref10_Find_b0
        simp only [natlt, g1, decide_true, cond_true, Int.natCast_nonneg, true_and, if_true, Int.toNat_natCast, g2, Option.bind_some, hx]
    · rw [iter_inl (s' := ((k + 1 : Nat) : Int)), ih (k + 1) g3]
      · simp [firstO, hx]
      · unfold cellarerref10_Find_b0
        simp only [natlt, g1, decide_true, cond_true, Int.natCast_nonneg, true_and, if_true, Int.toNat_natCast, g2, Option.bind_some, hx, decide_false, cond_false, kplus g1 (by omega)]

theorem refFindO_eq (l : List Ov) (p : List UInt8) (hl : l.length ≤ 10000) : cellarerref10_Find l p = some (idxO (firstO p l 0)) := by
  unfold cellarerref10_Find
  have h : iter (cellarerref10_Find_b0 l p) (0 : Int) = _ := refFindO_loop l p hl l 0 rfl
  rw [h]
  cases firstO p l 0 <;> rfl

theorem firstO_lt {p : List UInt8} : ∀ (l : List Ov) (k i : Nat), firstO p l k = some i → k ≤ i ∧ i < k + l.length
  | [], _, _, h => by simp [firstO] at h
  | x :: r, k, i, h => by
    unfold firstO at h
    split at h
    · simp only [Option.some.injEq] at h; subst h; simp
    · have := firstO_lt r (k + 1) i h
      simp only [List.length_cons]; omega

def metaV (l : List Ov) (p : List UInt8) (m : Int × Int × Int) : Int × Int × Int :=
  match firstO p l 0 with
  | some i => (l.getD i ([], 0, 0, 0)).2
  | none => m

theorem meta_eq (l : List Ov) (p : List UInt8) (a b c : Int) (hl : l.length ≤ 10000) : overs_Meta l p a b c = some (metaV l p (a, b, c)) := by
  unfold overs_Meta metaV
  rw [findO_eq l p hl, Option.bind_some]
  cases hf : firstO p l 0 with
  | none => simp [idxO]
  | some i =>
    have hi := firstO_lt l 0 i hf
    simp only [idxO, Int.natCast_nonneg, decide_true, cond_true, true_and, natlt, show i < l.length by omega, if_true, Int.toNat_natCast]

theorem refMetaV_eq (l : List Ov) (p : List UInt8) (a b c : Int) (hl : l.length ≤ 10000) : cellarerref10_Meta l p a b c = some (metaV l p (a, b, c)) := by
  unfold cellarerref10_Meta metaV
  rw [refFindO_eq l p hl, Option.bind_some]
  cases hf : firstO p l 0 with
  | none => simp [idxO]
  | some i =>
    have hi := firstO_lt l 0 i hf
    simp only [idxO, show ¬ ((i : Int) < 0) by omega, decide_false, cond_false, Int.natCast_nonneg, true_and, natlt, show i < l.length by omega, if_true, Int.toNat_natCast]

/-! ### few -/

def fewO (l : List Ov) : Bool := decide (l.length ≤ 70) && l.all fun x => decide (x.1.length ≤ 300)

theorem if300 (n : Nat) : ((300 : Int) < (n : Int)) = ¬ (n ≤ 300) := propext (by omega)

theorem fewO_eq (l : List Ov) : cellarerlaw10_few l = some (fewO l) := by
  unfold cellarerlaw10_few fewO
  by_cases c1 : l.length ≤ 70
  · have h : iter (cellarerlaw10_few_b0 l) (0 : Int) = _ := all_loop (cellarerlaw10_few_b0 l) (fun _ (x : Ov) => decide (x.1.length ≤ 300)) l (fun k hk => by
        unfold cellarerlaw10_few_b0
        simp [show ¬ k < l.length by omega]) (fun k x r h => by
        obtain ⟨g1, g2, g3⟩ := drop_cons h ([], 0, 0, 0)
        unfold cellarerlaw10_few_b0
        simp only [natlt, g1, decide_true, cond_true, Int.natCast_nonneg, true_and, and_self, if_true, Int.toNat_natCast, g2, kplus g1 (by omega), if300]
        by_cases h1 : x.1.length ≤ 300 <;> simp [h1]) l 0 rfl
    rw [h, allFrom_const]
    have hn : ¬ (70 : Int) < (l.length : Int) := by omega
    simp only [hn, decide_false, cond_false, c1, decide_true, Bool.true_and]
    cases l.all (fun x => decide (x.1.length ≤ 300)) <;> rfl
  · simp [c1, show (70 : Int) < (l.length : Int) by omega]

theorem fewO_sh {l : List Ov} (h : fewO l = true) : ShO l ∧ l.length ≤ 70 ∧ ∀ x ∈ l, x.1.length ≤ 300 := by
  unfold fewO at h
  simp only [Bool.and_eq_true, decide_eq_true_eq, List.all_eq_true] at h
  exact ⟨⟨by omega, fun x hx => by have := h.2 x hx; omega⟩, h.1, h.2⟩

theorem OversMetas_true (l : List Ov) (p : List UInt8) (a b c : Int) : cellarerlaw10_OversMetas l p a b c = some true := by
  unfold cellarerlaw10_OversMetas
  rw [fewO_eq, awake10]
  cases hf : fewO l with
  | false => rfl
  | true =>
    obtain ⟨hsh, hl, hx⟩ := fewO_sh hf
    by_cases hp : p.length ≤ 300
    · have hp' : ¬ ((300 : Int) < (p.length : Int)) := by omega
      simp only [Option.bind_some, Bool.not_true, cond_false, hp', decide_false, Sum.elim_inr, meta_eq l p a b c hsh.1, refMetaV_eq l p a b c hsh.1, decide_true, Bool.and_self, cond_true]
    · have hp' : ((300 : Int) < (p.length : Int)) := by omega
      simp only [Option.bind_some, Bool.not_true, cond_false, hp', decide_true, cond_true, Sum.elim_inl]

/-! ### are two the same -/

theorem ovEq (x y : Ov) : (Decidable.decide (x.1 = y.1) && (Decidable.decide (x.2.1 = y.2.1) && (Decidable.decide (x.2.2.1 = y.2.2.1) && Decidable.decide (x.2.2.2 = y.2.2.2)))) = decide (x = y) := by
  obtain ⟨a, b, c, d⟩ := x
  obtain ⟨a', b', c', d'⟩ := y
  by_cases h1 : a = a' <;> by_cases h2 : b = b' <;> by_cases h3 : c = c' <;> by_cases h4 : d = d' <;> simp [h1, h2, h3, h4]

theorem osame_loop (a b : List Ov) (hab : a.length = b.length) (ha : a.length < 1000002) : iter (cellarerref10_Same_b0 a b) (0 : Int) = some (if a = b then .inr () else .inl ()) := by
  have key : ∀ (r : List Ov) (k : Nat), a.drop k = r → iter (cellarerref10_Same_b0 a b) (k : Int) = some (if r = b.drop k then .inr () else .inl ()) := by
    intro r
    induction r with
    | nil =>
      intro k h
      have := drop_nil h
      have hb : b.drop k = [] := List.drop_eq_nil_of_le (by omega)
      rw [iter_inr (t := .inr ()), hb]
      · simp
      · unfold cellarerref10_Same_b0
        simp [show ¬ k < a.length by omega]
    | cons x r ih =>
      intro k h
      obtain ⟨g1, g2, g3⟩ := drop_cons h ([], 0, 0, 0)
      have hkb : k < b.length := by omega
      have hb : b.drop k = b.getD k ([], 0, 0, 0) :: b.drop (k + 1) := by
        rw [List.drop_eq_getElem_cons hkb, List.getD_eq_getElem?_getD, List.getElem?_eq_getElem hkb]; rfl
      have hbody : cellarerref10_Same_b0 a b (k : Int) = some (if x = b.getD k ([], 0, 0, 0) then .inl ((k + 1 : Nat) : Int) else .inr (.inl ())) := by
        unfold cellarerref10_Same_b0
        simp only [natlt, g1, hkb, decide_true, cond_true, Int.natCast_nonneg, true_and, and_self, if_true, Int.toNat_natCast, g2, kplus g1 (by omega), ovEq]
        by_cases hx : x = b.getD k ([], 0, 0, 0)
        · rw [if_pos hx, decide_eq_true hx]; rfl
        · rw [if_neg hx, decide_eq_false hx]; rfl
      by_cases hx : x = b.getD k ([], 0, 0, 0)
      · rw [if_pos hx] at hbody
        rw [iter_inl hbody, ih (k + 1) g3, hb, ← hx]
        simp
      · rw [if_neg hx] at hbody
        rw [iter_inr hbody, hb, if_neg (fun e => hx (by simp only [List.cons.injEq] at e; exact e.1))]
  have := key a 0 rfl
  simpa using this

theorem osame_eq (a b : List Ov) (ha : a.length < 1000002) : cellarerref10_Same a b = some (decide (a = b)) := by
  unfold cellarerref10_Same
  by_cases h : a.length = b.length
  · have hd : decide ((a.length : Int) = (b.length : Int)) = true := by simp; omega
    simp only [hd, Bool.not_true, cond_false]
    rw [osame_loop a b h ha]
    by_cases hab : a = b <;> simp [hab]
  · have hd : decide ((a.length : Int) = (b.length : Int)) = false := by simp; omega
    have hab : a ≠ b := fun e => h (by rw [e])
    simp [hd, hab]

/-! ### the text -/

def lineO (x : Ov) : List UInt8 := [35] ++ digI x.2.2.1 ++ [32, 35] ++ digI x.2.2.2 ++ [32] ++ octV x.2.1.toNat ++ [32] ++ x.1
def textO (x : Ov) : List UInt8 := lineO x ++ [10]
def printO (l : List Ov) : List UInt8 := l.flatMap textO
def prnO (l : List Ov) : List UInt8 × Int := if checkO l = 0 then (printO l, 0) else ([], checkO l)

theorem metaR_iff {m : Int × Int × Int} (h : metaR m = true) : 0 ≤ m.1 ∧ m.1 ≤ 4095 ∧ 0 ≤ m.2.1 ∧ m.2.1 ≤ 67108863 ∧ 0 ≤ m.2.2 ∧ m.2.2 ≤ 67108863 := by
  simpa [metaR] using h

theorem digI_len {n : Int} (h : 0 ≤ n) (h' : n ≤ 67108863) : (digI n).length ≤ 8 := by
  unfold digI
  rw [if_neg (by omega)]
  exact dig_len8 (by omega)

theorem octV_len (m : Nat) : (octV m).length = 4 := by simp [octV]

theorem textO_len {x : Ov} (h : rightO x = true) (hx : x.1.length ≤ 10000) : (textO x).length ≤ 10030 := by
  unfold rightO at h
  simp only [Bool.and_eq_true] at h
  obtain ⟨h1, h2, h3, h4, h5, h6⟩ := metaR_iff h.2
  have := digI_len h3 h4
  have := digI_len h5 h6
  have ol := octV_len x.2.1.toNat
  simp only [textO, lineO, List.length_append, List.length_cons, List.length_nil]
  omega

theorem line_eq (x : Ov) (h : rightO x = true) (hx : x.1.length ≤ 10000) : overs_line x.1 x.2.1 x.2.2.1 x.2.2.2 = some (textO x) := by
  have hl := textO_len h hx
  unfold rightO at h
  simp only [Bool.and_eq_true] at h
  obtain ⟨h1, h2, h3, h4, h5, h6⟩ := metaR_iff h.2
  have a1 := digI_len h3 h4
  have a2 := digI_len h5 h6
  have ol := octV_len x.2.1.toNat
  unfold overs_line
  have ho : bits_Octal x.2.1 = some (octV x.2.1.toNat) := by
    have := octal_eq x.2.1.toNat (by omega)
    rwa [show ((x.2.1.toNat : Nat) : Int) = x.2.1 by omega] at this
  rw [bitsText_eq x.2.2.1 (by omega) (by omega), Option.bind_some, bitsText_eq x.2.2.2 (by omega) (by omega), ho]
  simp only [Option.bind_some, List.length_append, List.length_cons, List.length_nil]
  rw [if_pos (by omega), if_pos (by omega), if_pos (by omega), if_pos (by omega), if_pos (by omega), if_pos (by omega), if_pos (by omega), if_pos (by omega)]
  rfl

theorem printO_loop (l : List Ov) (hl : ShO l) (hr : ∀ x ∈ l, rightO x = true) : ∀ (r : List Ov) (k : Nat) (s : List UInt8), l.drop k = r → s.length ≤ k * 10030 →
    iter (overs_Print_b0 l (l.length : Int)) ((k : Int), s) = some (s ++ printO r) := by
  intro r
  induction r with
  | nil =>
    intro k s h hs
    have := drop_nil h
    rw [iter_inr (t := s)]
    · simp [printO]
    · unfold overs_Print_b0
      simp [show ¬ k < l.length by omega]
  | cons x r ih =>
    intro k s h hs
    obtain ⟨g1, g2, g3⟩ := drop_cons h ([], 0, 0, 0)
    have hx : x ∈ l := List.mem_of_mem_drop (by rw [h]; simp)
    have hl1 := hl.1
    have ht := textO_len (hr x hx) (hl.2 x hx)
    rw [iter_inl (s' := (((k + 1 : Nat) : Int), s ++ textO x)), ih (k + 1) _ g3 (by simp; omega)]
    · simp [printO]
    · unfold overs_Print_b0 x__strings_Builder__WriteString
      simp only [natlt, g1, decide_true, cond_true, Int.natCast_nonneg, true_and, if_true, Int.toNat_natCast, g2, kplus g1 (by omega), line_eq x (hr x hx) (hl.2 x hx), Option.bind_some]
      rw [if_pos (by omega)]
      rfl

theorem printO_len (l : List Ov) (hl : ShO l) (hr : ∀ x ∈ l, rightO x = true) : (printO l).length ≤ l.length * 10030 := by
  have : ∀ r : List Ov, (∀ x ∈ r, x ∈ l) → (printO r).length ≤ r.length * 10030 := by
    intro r
    induction r with
    | nil => intro _; simp [printO]
    | cons x r ih =>
      intro h
      have h1 := ih fun y hy => h y (by simp [hy])
      have h2 := textO_len (hr x (h x (by simp))) (hl.2 x (h x (by simp)))
      simp only [printO, List.flatMap_cons, List.length_append, List.length_cons] at h1 ⊢
      omega
  exact this l fun x hx => hx

theorem printOv_eq (l : List Ov) (hl : ShO l) : overs_Print l = some (prnO l) := by
  unfold overs_Print prnO
  rw [checkO_eq l hl, Option.bind_some]
  by_cases c : checkO l = 0
  · have hr := (checkO_zero c).2
    have h : iter (overs_Print_b0 l (l.length : Int)) ((0 : Int), ([] : List UInt8)) = _ := printO_loop l hl hr l 0 [] rfl (by simp)
    have hlen := printO_len l hl hr
    have hl1 := hl.1
    simp only [c, decide_true, Bool.not_true, cond_false, if_true, h, Option.bind_some, List.nil_append, x__strings_Builder__String]
    rw [if_pos (by omega)]
    rfl
  · simp [c]

theorem refPrintO_loop (l : List Ov) (hl : ShO l) (hr : ∀ x ∈ l, rightO x = true) : ∀ (r : List Ov) (k : Nat) (s : List UInt8), l.drop k = r → s.length ≤ k * 10030 →
    iter (cellarerref10_Print_b0 l) (s, (k : Int)) = some (s ++ printO r) := by
  intro r
  induction r with
  | nil =>
    intro k s h hs
    have := drop_nil h
    rw [iter_inr (t := s)]
    · simp [printO]
    · unfold cellarerref10_Print_b0
      simp [show ¬ k < l.length by omega]
  | cons x r ih =>
    intro k s h hs
    obtain ⟨g1, g2, g3⟩ := drop_cons h ([], 0, 0, 0)
    have hx : x ∈ l := List.mem_of_mem_drop (by rw [h]; simp)
    have hl1 := hl.1
    have hrx := hr x hx
    have hsx := hl.2 x hx
    have ht := textO_len hrx hsx
    unfold rightO at hrx
    simp only [Bool.and_eq_true] at hrx
    obtain ⟨h1, h2, h3, h4, h5, h6⟩ := metaR_iff hrx.2
    have a1 := digI_len h3 h4
    have a2 := digI_len h5 h6
    have ol := octV_len x.2.1.toNat
    have ho : cellarerref01_Octal x.2.1 = some (octV x.2.1.toNat) := by
      have := refOctal_eq x.2.1.toNat (by omega)
      rwa [show ((x.2.1.toNat : Nat) : Int) = x.2.1 by omega] at this
    rw [iter_inl (s' := (s ++ textO x, ((k + 1 : Nat) : Int))), ih (k + 1) _ g3 (by simp; omega)]
    · simp [printO]
    · unfold cellarerref10_Print_b0
      simp only [natlt, g1, decide_true, cond_true, Int.natCast_nonneg, true_and, if_true, Int.toNat_natCast, g2, kplus g1 (by omega), refText_eq x.2.2.1 (by omega) (by omega), refText_eq x.2.2.2 (by omega) (by omega), ho, Option.bind_some, List.length_append, List.length_cons, List.length_nil]
      rw [if_pos (by omega), if_pos (by omega), if_pos (by omega), if_pos (by omega), if_pos (by omega), if_pos (by omega), if_pos (by omega), if_pos (by omega), if_pos (by omega)]
      simp [textO, lineO]

theorem refPrintOv_eq (l : List Ov) (hl : ShO l) : cellarerref10_Print l = some (prnO l) := by
  unfold cellarerref10_Print prnO
  rw [refCheckO_eq l hl, Option.bind_some]
  by_cases c : checkO l = 0
  · have hr := (checkO_zero c).2
    have h : iter (cellarerref10_Print_b0 l) (([] : List UInt8), (0 : Int)) = _ := refPrintO_loop l hl hr l 0 [] rfl (by simp)
    simp only [c, decide_true, Bool.not_true, cond_false, if_true, h, Option.bind_some, List.nil_append]
  · simp [c]

end Go.Cellar
