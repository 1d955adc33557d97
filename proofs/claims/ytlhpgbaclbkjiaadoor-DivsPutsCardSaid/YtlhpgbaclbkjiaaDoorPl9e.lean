/- Diversions, by plain lists: which may be, and the text. No condition. -/
import Derived.Test.YtlhpgbaclbkjiaaDoorPl9d
set_option linter.unusedSimpArgs false
set_option linter.unusedVariables false
set_option maxRecDepth 4000
namespace Go.Cellar
open Go

abbrev Dv := List UInt8 × List UInt8 × List UInt8

theorem awake9 : cellarerlaw09_awake = some true := by kernel_rfl

/-- Short enough for all that is done. -/
def Sh (x : Dv) : Prop := x.1.length ≤ 10000 ∧ x.2.1.length ≤ 10000 ∧ x.2.2.length ≤ 10000
def ShL (l : List Dv) : Prop := l.length ≤ 10000 ∧ ∀ x ∈ l, Sh x

def rightD (x : Dv) : Bool := rightV x.1 && (rightV x.2.1 && (!decide (x.1 = x.2.1) && (!decide (x.1 = [47]) && (!decide (x.2.1 = [47]) && (decide (x.2.2 = []) || nameV x.2.2)))))

theorem divRight_eq (a b c : List UInt8) (h : Sh (a, b, c)) : divs_Right a b c = some (rightD (a, b, c)) := by
  obtain ⟨h1, h2, h3⟩ := h
  dsimp only at h1 h2 h3
  unfold divs_Right rightD
  rw [right_eq a (by omega), right_eq b (by omega), name_eq c]
  dsimp only [Option.bind_some]
  cases rightV a
  · rfl
  · cases rightV b
    · rfl
    · dsimp only [Option.bind_some, cond_true, Bool.true_and]
      by_cases e1 : a = b
      · simp [e1]
      · by_cases e2 : a = [47]
        · simp [e1, e2]
        · by_cases e3 : b = [47]
          · simp [e1, e2, e3]
          · by_cases e4 : c = []
            · simp [e1, e2, e3, e4]
            · simp [e1, e2, e3, e4]

theorem refDivRight_eq (a b c : List UInt8) (h : Sh (a, b, c)) : cellarerref09_Right a b c = some (rightD (a, b, c)) := by
  obtain ⟨h1, h2, h3⟩ := h
  dsimp only at h1 h2 h3
  unfold cellarerref09_Right rightD
  rw [refRight_eq a (by omega), refRight_eq b (by omega), refName_eq c (by omega)]
  dsimp only [Option.bind_some]
  cases rightV a
  · rfl
  · cases rightV b
    · rfl
    · dsimp only [Option.bind_some, cond_true, Bool.true_and]
      by_cases e1 : a = b
      · simp [e1]
      · by_cases e2 : a = [47]
        · simp [e1, e2]
        · by_cases e3 : b = [47]
          · simp [e1, e2, e3]
          · by_cases e4 : c = []
            · simp [e1, e2, e3, e4]
            · simp [e1, e2, e3, e4]

/-! ### first places -/

def firstAt {α : Type} (q : α → Bool) : List α → Nat → Option Nat
  | [], _ => none
  | x :: r, k => if q x = true then some k else firstAt q r (k + 1)

def idxOf : Option Nat → Int
  | some k => k
  | none => -1

theorem firstAt_none {α : Type} (q : α → Bool) : ∀ (l : List α) (k : Nat), firstAt q l k = none → ∀ x ∈ l, q x = false := by
  intro l
  induction l with
  | nil => intro k _ x hx; cases hx
  | cons y r ih =>
    intro k h x hx
    simp only [firstAt] at h
    by_cases hy : q y = true
    · rw [if_pos hy] at h; cases h
    · rw [if_neg hy] at h
      rcases List.mem_cons.mp hx with rfl | hx
      · simpa using hy
      · exact ih (k + 1) h x hx

theorem firstAt_some {α : Type} (q : α → Bool) : ∀ (l : List α) (k i : Nat), firstAt q l k = some i → ∃ j x, i = k + j ∧ l[j]? = some x ∧ q x = true ∧ ∀ m, m < j → ∀ y, l[m]? = some y → q y = false := by
  intro l
  induction l with
  | nil => intro k i h; cases h
  | cons y r ih =>
    intro k i h
    simp only [firstAt] at h
    by_cases hy : q y = true
    · rw [if_pos hy] at h
      simp only [Option.some.injEq] at h
      exact ⟨0, y, by omega, rfl, hy, fun m hm => by omega⟩
    · rw [if_neg hy] at h
      obtain ⟨j, x, h1, h2, h3, h4⟩ := ih (k + 1) i h
      refine ⟨j + 1, x, by omega, by simpa using h2, h3, fun m hm z hz => ?_⟩
      cases m with
      | zero => simp only [List.getElem?_cons_zero, Option.some.injEq] at hz; subst hz; simpa using hy
      | succ m => exact h4 m (by omega) z (by simpa using hz)

theorem find_loop (l : List Dv) (p : List UInt8) (hl : l.length ≤ 10000) : ∀ (r : List Dv) (k : Nat), l.drop k = r →
    iter (api_Divert__b0 l (l.length : Int)) ((k : Int), p) = some (match firstAt (fun x => decide (x.1 = p)) r k with | some i => .inl ((i : Int), p) | none => .inr p) := by
  intro r
  induction r with
  | nil =>
    intro k h
    have := drop_nil h
    rw [iter_inr (t := .inr p)]
    · rfl
    · unfold api_Divert__b0
      simp [show ¬ k < l.length by omega]
  | cons x r ih =>
    intro k h
    obtain ⟨g1, g2, g3⟩ := drop_cons h ([], [], [])
    by_cases hx : x.1 = p
    · rw [iter_inr (t := .inl ((k : Int), p))]
      · simp [firstAt, hx]
      · unfold api_Divert__b0 divs_Find_1
        simp only [natlt, g1, decide_true, cond_true, Int.natCast_nonneg, true_and, if_true, Int.toNat_natCast, g2, Option.bind_some, hx]
    · rw [iter_inl (s' := (((k + 1 : Nat) : Int), p)), ih (k + 1) g3]
      · simp [firstAt, hx]
      · unfold api_Divert__b0 divs_Find_1
        simp only [natlt, g1, decide_true, cond_true, Int.natCast_nonneg, true_and, if_true, Int.toNat_natCast, g2, Option.bind_some, hx, decide_false, cond_false, kplus g1 (by omega)]

def findV (l : List Dv) (p : List UInt8) : Option Nat := firstAt (fun x => decide (x.1 = p)) l 0

theorem find_eq (l : List Dv) (p : List UInt8) (hl : l.length ≤ 10000) : divs_Find l p = some (idxOf (findV l p)) := by
  unfold divs_Find api_Divert_ findV
  have h := find_loop l p hl l 0 rfl
  rw [show ((0 : Int), p) = (((0 : Nat) : Int), p) from rfl, h]
  cases firstAt (fun x : Dv => decide (x.1 = p)) l 0 <;> rfl

theorem refFind_loop (l : List Dv) (p : List UInt8) (hl : l.length ≤ 10000) : ∀ (r : List Dv) (k : Nat), l.drop k = r →
    iter (cellarerref09_Find_b0 l p) (k : Int) = some (match firstAt (fun x => decide (x.1 = p)) r k with | some i => .inl (i : Int) | none => .inr ()) := by
  intro r
  induction r with
  | nil =>
    intro k h
    have := drop_nil h
    rw [iter_inr (t := .inr ())]
    · rfl
    · unfold cellarerref09_Find_b0
      simp [show ¬ k < l.length by omega]
  | cons x r ih =>
    intro k h
    obtain ⟨g1, g2, g3⟩ := drop_cons h ([], [], [])
    by_cases hx : x.1 = p
    · rw [iter_inr (t := .inl (k : Int))]
      · simp [firstAt, hx]
      · unfold cellarerref09_Find_b0
        simp only [natlt, g1, decide_true, cond_true, Int.natCast_nonneg, true_and, if_true, Int.toNat_natCast, g2, Option.bind_some, hx]
    · rw [iter_inl (s' := ((k + 1 : Nat) : Int)), ih (k + 1) g3]
      · simp [firstAt, hx]
      · unfold cellarerref09_Find_b0
        simp only [natlt, g1, decide_true, cond_true, Int.natCast_nonneg, true_and, if_true, Int.toNat_natCast, g2, Option.bind_some, hx, decide_false, cond_false, kplus g1 (by omega)]

theorem refFind_eq (l : List Dv) (p : List UInt8) (hl : l.length ≤ 10000) : cellarerref09_Find l p = some (idxOf (findV l p)) := by
  unfold cellarerref09_Find findV
  have h : iter (cellarerref09_Find_b0 l p) (0 : Int) = _ := refFind_loop l p hl l 0 rfl
  rw [h]
  cases firstAt (fun x : Dv => decide (x.1 = p)) l 0 <;> rfl

theorem to_loop (l : List Dv) (a b c : List UInt8) (hl : l.length ≤ 10000) : ∀ (r : List Dv) (k : Nat), l.drop k = r →
    iter (api_Divert__v1_b0 l (l.length : Int)) ((k : Int), a, b, c) = some (match firstAt (fun x => decide (x.2.1 = b)) r k with | some i => .inl ((i : Int), a, b, c) | none => .inr (a, b, c)) := by
  intro r
  induction r with
  | nil =>
    intro k h
    have := drop_nil h
    rw [iter_inr (t := .inr (a, b, c))]
    · rfl
    · unfold api_Divert__v1_b0
      simp [show ¬ k < l.length by omega]
  | cons x r ih =>
    intro k h
    obtain ⟨g1, g2, g3⟩ := drop_cons h ([], [], [])
    by_cases hx : x.2.1 = b
    · rw [iter_inr (t := .inl ((k : Int), a, b, c))]
      · simp [firstAt, hx]
      · unfold api_Divert__v1_b0 divs_Check_1
        simp only [natlt, g1, decide_true, cond_true, Int.natCast_nonneg, true_and, if_true, Int.toNat_natCast, g2, Option.bind_some, hx]
    · rw [iter_inl (s' := (((k + 1 : Nat) : Int), a, b, c)), ih (k + 1) g3]
      · simp [firstAt, hx]
      · unfold api_Divert__v1_b0 divs_Check_1
        simp only [natlt, g1, decide_true, cond_true, Int.natCast_nonneg, true_and, if_true, Int.toNat_natCast, g2, Option.bind_some, hx, decide_false, cond_false, kplus g1 (by omega)]

theorem idx_none' {α : Type} {q : α → Bool} {l : List α} : decide ((0 : Int) ≤ idxOf (firstAt q l 0)) = l.any q := by
  cases h : firstAt q l 0 with
  | none =>
    have := firstAt_none q l 0 h
    have : l.any q = false := by rw [List.any_eq_false]; intro x hx; simp [this x hx]
    rw [this]; rfl
  | some i =>
    obtain ⟨j, x, h1, h2, h3, _⟩ := firstAt_some q l 0 i h
    have : l.any q = true := List.any_eq_true.mpr ⟨x, List.mem_of_getElem? h2, h3⟩
    rw [this]
    simp [idxOf]

theorem any_eq (l : List Dv) (a b c : List UInt8) (hl : l.length ≤ 10000) : api_Divert__29 l a b c = some (l.any (fun x => decide (x.2.1 = b)), a, b, c) := by
  unfold api_Divert__29 api_Divert__v1
  have h := to_loop l a b c hl l 0 rfl
  rw [show ((0 : Int), a, b, c) = (((0 : Nat) : Int), a, b, c) from rfl, h, ← idx_none']
  cases firstAt (fun x : Dv => decide (x.2.1 = b)) l 0 <;> rfl

/-! ### why they can't be -/

def ord (l : List Dv) (k : Nat) (x : Dv) : Bool := decide (k = 0) || Go.Op.bytesLess (l.getD (k - 1) ([], [], [])).1 x.1
def chk (l : List Dv) (k : Nat) (x : Dv) : Bool := rightD x && (ord l k x && (!l.any (fun y => decide (y.1 = x.2.1)) && !(l.take k).any (fun y => decide (y.2.1 = x.2.1))))
def far (t : List UInt8) (k j : Nat) (y : Dv) : Bool := !decide (y.1 = t) && (decide (j = k) || !decide (y.2.1 = t))
def rchk (l : List Dv) (k : Nat) (x : Dv) : Bool := rightD x && (ord l k x && allFrom (far x.2.1 k) 0 l)
def checkV (l : List Dv) : Int := if 64 < l.length then 22 else if allFrom (chk l) 0 l = true then 0 else 1

theorem ieq (a b : Nat) : ((a : Int) = (b : Int)) = (a = b) := propext (by omega)

theorem check_loop (l : List Dv) (hl : ShL l) : iter (divs_Check_b0 l l (l.length : Int)) (0 : Int) = some (if allFrom (chk l) 0 l = true then .inr () else .inl ()) := by
  refine all_loop (divs_Check_b0 l l (l.length : Int)) (chk l) l (fun k hk => ?_) (fun k x r h => ?_) l 0 rfl
  · unfold divs_Check_b0
    simp [show ¬ k < l.length by omega]
  · obtain ⟨g1, g2, g3⟩ := drop_cons h ([], [], [])
    have hx : x ∈ l := List.mem_of_mem_drop (by rw [h]; simp)
    have hsh := hl.2 x hx
    unfold divs_Check_b0 chk
    have hl1 := hl.1
    have hf := find_eq l x.2.1 hl.1
    have ha := any_eq (l.take k) x.1 x.2.1 x.2.2 (by rw [List.length_take]; omega)
    simp only [natlt, g1, decide_true, cond_true, Int.natCast_nonneg, true_and, if_true, Int.toNat_natCast, g2, hf, divRight_eq x.1 x.2.1 x.2.2 hsh, Option.bind_some, kplus g1 (by omega)]
    unfold findV
    simp only [idx_none']
    have h0 : (List.drop (Int.toNat (0 : Int)) (List.take k l)) = List.take k l := rfl
    rw [h0, ha]
    have hle : (0 : Int) ≤ 0 ∧ True ∧ (k : Int) ≤ (l.length : Int) := ⟨Int.le_refl 0, trivial, by omega⟩
    cases hr : rightD (x.1, x.2.1, x.2.2)
    · have hr' : rightD x = false := hr
      simp [hr']
    · have hr' : rightD x = true := hr
      simp only [hr', Bool.not_true, cond_false, Bool.true_and]
      by_cases hk : k = 0
      · subst hk
        simp only [show ¬ ((0 : Int) < ((0 : Nat) : Int)) by omega, decide_false, cond_false, ord, decide_true, Bool.true_or, Bool.true_and]
        cases l.any (fun y => decide (y.1 = x.2.1))
        · simp
        · simp
      · have e : IntKind.wrap IntKind.i64 ((k : Int) - 1) = ((k - 1 : Nat) : Int) := by rw [w64 (by omega) (by omega)]; omega
        simp only [show ((0 : Int) < (k : Int)) by omega, decide_true, cond_true, e, Int.natCast_nonneg, true_and, natlt, show k - 1 < l.length by omega, if_true, Int.toNat_natCast, ord, hk, decide_false, Bool.false_or]
        cases Go.Op.bytesLess (l.getD (k - 1) ([], [], [])).1 x.1
        · simp
        · cases l.any (fun y => decide (y.1 = x.2.1))
          · simp only [Bool.not_true, cond_false, Option.bind_some, Sum.elim_inr, Bool.not_false, Bool.true_and]
            rw [if_pos (by omega)]
            cases (l.take k).any (fun y => decide (y.2.1 = x.2.1)) <;> simp
          · simp

theorem rfar_loop (l : List Dv) (hl : ShL l) (k : Nat) (x : Dv) (r : List Dv) (h : l.drop k = x :: r) : iter (cellarerref09_Check_b0 l (k : Int)) (0 : Int) = some (if allFrom (far x.2.1 k) 0 l = true then .inr () else .inl ()) := by
  obtain ⟨g1, g2, g3⟩ := drop_cons h ([], [], [])
  refine all_loop (cellarerref09_Check_b0 l (k : Int)) (far x.2.1 k) l (fun j hj => ?_) (fun j y r' h' => ?_) l 0 rfl
  · unfold cellarerref09_Check_b0
    simp [show ¬ j < l.length by omega]
  · obtain ⟨q1, q2, q3⟩ := drop_cons h' ([], [], [])
    have hl1 := hl.1
    unfold cellarerref09_Check_b0 far
    simp only [natlt, g1, q1, decide_true, cond_true, Int.natCast_nonneg, true_and, and_self, if_true, Int.toNat_natCast, g2, q2, kplus q1 (by omega), ieq]
    by_cases h1 : y.1 = x.2.1
    · simp [h1]
    · by_cases h2 : j = k
      · simp [h1, h2]
      · by_cases h3 : y.2.1 = x.2.1
        · simp [h1, h2, h3]
        · simp [h1, h2, h3]

theorem refCheck_loop (l : List Dv) (hl : ShL l) : iter (cellarerref09_Check_b1 l) (0 : Int) = some (if allFrom (rchk l) 0 l = true then .inr () else .inl ()) := by
  refine all_loop (cellarerref09_Check_b1 l) (rchk l) l (fun k hk => ?_) (fun k x r h => ?_) l 0 rfl
  · unfold cellarerref09_Check_b1
    simp [show ¬ k < l.length by omega]
  · obtain ⟨g1, g2, g3⟩ := drop_cons h ([], [], [])
    have hx : x ∈ l := List.mem_of_mem_drop (by rw [h]; simp)
    have hsh := hl.2 x hx
    have hl1 := hl.1
    unfold cellarerref09_Check_b1 rchk
    simp only [natlt, g1, decide_true, cond_true, Int.natCast_nonneg, true_and, and_self, if_true, Int.toNat_natCast, g2, refDivRight_eq x.1 x.2.1 x.2.2 hsh, Option.bind_some, kplus g1 (by omega), rfar_loop l hl k x r h]
    cases hr : rightD (x.1, x.2.1, x.2.2)
    · have hr' : rightD x = false := hr
      simp [hr']
    · have hr' : rightD x = true := hr
      simp only [hr', Bool.not_true, cond_false, Bool.true_and]
      by_cases hk : k = 0
      · subst hk
        simp only [show ¬ ((0 : Int) < ((0 : Nat) : Int)) by omega, decide_false, cond_false, ord, decide_true, Bool.true_or, Bool.true_and, Option.bind_some, Sum.elim_inr]
        cases allFrom (far x.2.1 0) 0 l <;> simp
      · have e : IntKind.wrap IntKind.i64 ((k : Int) - 1) = ((k - 1 : Nat) : Int) := by rw [w64 (by omega) (by omega)]; omega
        simp only [show ((0 : Int) < (k : Int)) by omega, decide_true, cond_true, e, Int.natCast_nonneg, true_and, natlt, show k - 1 < l.length by omega, if_true, Int.toNat_natCast, ord, hk, decide_false, Bool.false_or]
        cases Go.Op.bytesLess (l.getD (k - 1) ([], [], [])).1 x.1
        · simp
        · cases allFrom (far x.2.1 k) 0 l <;> simp

theorem allFrom_iff {α : Type} (p : Nat → α → Bool) : ∀ (l : List α) (k : Nat), allFrom p k l = true ↔ ∀ i c, l[i]? = some c → p (k + i) c = true := by
  intro l
  induction l with
  | nil => intro k; simp [allFrom]
  | cons x r ih =>
    intro k
    simp only [allFrom, Bool.and_eq_true, ih]
    constructor
    · rintro ⟨h1, h2⟩ i c hi
      cases i with
      | zero => simp only [List.getElem?_cons_zero, Option.some.injEq] at hi; subst hi; exact h1
      | succ i =>
        have := h2 i c (by simpa using hi)
        rw [show k + (i + 1) = k + 1 + i by omega]; exact this
    · intro h
      refine ⟨h 0 x rfl, fun i c hi => ?_⟩
      have := h (i + 1) c (by simpa using hi)
      rw [show k + (i + 1) = k + 1 + i by omega] at this; exact this

theorem chk_same (l : List Dv) : allFrom (chk l) 0 l = allFrom (rchk l) 0 l := by
  rw [Bool.eq_iff_iff, allFrom_iff, allFrom_iff]
  constructor
  · intro h i x hi
    have hx := h i x hi
    simp only [chk, rchk, Nat.zero_add, Bool.and_eq_true, Bool.not_eq_true', List.any_eq_false, decide_eq_true_eq, allFrom_iff] at hx ⊢
    refine ⟨hx.1, hx.2.1, fun j y hj => ?_⟩
    have h1 := hx.2.2.1 y (List.mem_of_getElem? hj)
    have h2 : j = i ∨ y.2.1 ≠ x.2.1 := by
      rcases Nat.lt_trichotomy j i with hji | hji | hji
      · right
        refine hx.2.2.2 y ?_
        refine List.mem_of_getElem? (i := j) ?_
        rw [List.getElem?_take_of_lt hji]; exact hj
      · exact .inl hji
      · right
        have hy := h j y hj
        simp only [chk, Nat.zero_add, Bool.and_eq_true, Bool.not_eq_true', List.any_eq_false, decide_eq_true_eq] at hy
        have := hy.2.2.2 x (List.mem_of_getElem? (i := i) (by rw [List.getElem?_take_of_lt hji]; exact hi))
        exact fun e => this e.symm
    unfold far
    rcases h2 with h2 | h2 <;> simp [h1, h2]
  · intro h i x hi
    have hx := h i x hi
    simp only [chk, rchk, Nat.zero_add, Bool.and_eq_true, Bool.not_eq_true', List.any_eq_false, decide_eq_true_eq, allFrom_iff] at hx ⊢
    refine ⟨hx.1, hx.2.1, fun y hy => ?_, fun y hy => ?_⟩
    · obtain ⟨j, hj⟩ := List.getElem?_of_mem hy
      have := hx.2.2 j y hj
      unfold far at this
      simp only [Bool.and_eq_true, Bool.not_eq_true', decide_eq_false_iff_not] at this
      exact this.1
    · obtain ⟨j, hj⟩ := List.getElem?_of_mem hy
      have hji : j < i := by
        have := (List.getElem?_eq_some_iff.1 hj).1
        rw [List.length_take] at this
        omega
      rw [List.getElem?_take_of_lt hji] at hj
      have := hx.2.2 j y hj
      unfold far at this
      simp only [Bool.and_eq_true, Bool.not_eq_true', decide_eq_false_iff_not, Bool.or_eq_true, decide_eq_true_eq] at this
      rcases this.2 with h2 | h2
      · omega
      · exact h2

theorem check_eq (l : List Dv) (hl : ShL l) : divs_Check l = some (checkV l) := by
  unfold divs_Check checkV
  by_cases h : 64 < l.length
  · simp [h, show (64 : Int) < (l.length : Int) by omega]
  · rw [check_loop l hl]
    simp only [h, show ¬ (64 : Int) < (l.length : Int) by omega, decide_false, cond_false, if_false]
    cases allFrom (chk l) 0 l <;> rfl

theorem refCheck_eq (l : List Dv) (hl : ShL l) : cellarerref09_Check l = some (checkV l) := by
  unfold cellarerref09_Check checkV
  by_cases h : 64 < l.length
  · simp [h, show (64 : Int) < (l.length : Int) by omega]
  · rw [refCheck_loop l hl, chk_same]
    simp only [h, show ¬ (64 : Int) < (l.length : Int) by omega, decide_false, cond_false, if_false]
    cases allFrom (rchk l) 0 l <;> rfl

end Go.Cellar
