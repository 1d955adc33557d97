/- Diversions, by plain lists: where a path is, the text, and back. No condition. -/
import Derived.Test.YtlhpgbaclbkjiaaDoorPl9e
set_option linter.unusedSimpArgs false
set_option linter.unusedVariables false
set_option maxRecDepth 4000
namespace Go.Cellar
open Go

/-! ### where a path is -/

def fromV : List Dv → List UInt8 → List UInt8
  | [], p => p
  | x :: r, p => if x.2.1 = p then x.1 else fromV r p

theorem from_eq (l : List Dv) (p : List UInt8) (hl : l.length ≤ 10000) : divs_From l p = some (fromV l p) := by
  have key : ∀ (r : List Dv) (k : Nat), l.drop k = r → (iter (divs_From_b0 p l (l.length : Int)) (k : Int)).bind (Sum.elim some (fun _ => some p)) = some (fromV r p) := by
    intro r
    induction r with
    | nil =>
      intro k h
      have := drop_nil h
      rw [iter_inr (t := .inr ())]
      · rfl
      · unfold divs_From_b0
        simp [show ¬ k < l.length by omega]
    | cons x r ih =>
      intro k h
      obtain ⟨g1, g2, g3⟩ := drop_cons h ([], [], [])
      by_cases hx : x.2.1 = p
      · rw [iter_inr (t := .inl x.1)]
        · simp [fromV, hx]
        · unfold divs_From_b0
          simp only [natlt, g1, decide_true, cond_true, Int.natCast_nonneg, true_and, if_true, Int.toNat_natCast, g2, hx]
      · rw [iter_inl (s' := ((k + 1 : Nat) : Int)), ih (k + 1) g3]
        · simp [fromV, hx]
        · unfold divs_From_b0
          simp only [natlt, g1, decide_true, cond_true, Int.natCast_nonneg, true_and, if_true, Int.toNat_natCast, g2, hx, decide_false, cond_false, kplus g1 (by omega)]
  have := key l 0 rfl
  exact this

theorem refFrom_eq (l : List Dv) (p : List UInt8) (hl : l.length ≤ 10000) : cellarerref09_From l p = some (fromV l p) := by
  have key : ∀ (r : List Dv) (k : Nat), l.drop k = r → (iter (cellarerref09_From_b0 l p) (k : Int)).bind (Sum.elim some (fun _ => some p)) = some (fromV r p) := by
    intro r
    induction r with
    | nil =>
      intro k h
      have := drop_nil h
      rw [iter_inr (t := .inr ())]
      · rfl
      · unfold cellarerref09_From_b0
        simp [show ¬ k < l.length by omega]
    | cons x r ih =>
      intro k h
      obtain ⟨g1, g2, g3⟩ := drop_cons h ([], [], [])
      by_cases hx : x.2.1 = p
      · rw [iter_inr (t := .inl x.1)]
        · simp [fromV, hx]
        · unfold cellarerref09_From_b0
          simp only [natlt, g1, decide_true, cond_true, Int.natCast_nonneg, true_and, and_self, if_true, Int.toNat_natCast, g2, hx]
      · rw [iter_inl (s' := ((k + 1 : Nat) : Int)), ih (k + 1) g3]
        · simp [fromV, hx]
        · unfold cellarerref09_From_b0
          simp only [natlt, g1, decide_true, cond_true, Int.natCast_nonneg, true_and, and_self, if_true, Int.toNat_natCast, g2, hx, decide_false, cond_false, kplus g1 (by omega)]
  have := key l 0 rfl
  exact this

def trueV (l : List Dv) (p by_ : List UInt8) : List UInt8 :=
  match findV l p with
  | none => p
  | some i => if (l.getD i ([], [], [])).2.2 ≠ [] ∧ (l.getD i ([], [], [])).2.2 = by_ then p else (l.getD i ([], [], [])).2.1

theorem find_at {l : List Dv} {p : List UInt8} {i : Nat} (h : findV l p = some i) : i < l.length ∧ l[i]? = some (l.getD i ([], [], [])) ∧ (l.getD i ([], [], [])).1 = p := by
  obtain ⟨j, x, h1, h2, h3, _⟩ := firstAt_some _ l 0 i h
  obtain rfl : i = j := by omega
  have hlt := (List.getElem?_eq_some_iff.1 h2).1
  have e : l.getD i ([], [], []) = x := by rw [List.getD_eq_getElem?_getD, h2]; rfl
  rw [e]
  exact ⟨hlt, h2, by simpa using h3⟩

theorem true_eq (l : List Dv) (p by_ : List UInt8) (hl : l.length ≤ 10000) : divs_True l p by_ = some (trueV l p by_) := by
  unfold divs_True trueV
  rw [find_eq l p hl]
  cases h : findV l p with
  | none => rfl
  | some i =>
    obtain ⟨h1, h2, h3⟩ := find_at h
    simp only [Option.bind_some, idxOf, show ¬ ((i : Int) < 0) by omega, decide_false, cond_false, Int.natCast_nonneg, true_and, natlt, h1, if_true, Int.toNat_natCast]
    by_cases c1 : (l.getD i ([], [], [])).2.2 = []
    · rw [if_neg (fun h => h.1 c1), decide_eq_true c1]; rfl
    · by_cases c2 : (l.getD i ([], [], [])).2.2 = by_
      · rw [if_pos ⟨c1, c2⟩, decide_eq_false c1, decide_eq_true c2]; rfl
      · rw [if_neg (fun h => c2 h.2), decide_eq_false c1, decide_eq_false c2]; rfl

theorem refTrue_eq (l : List Dv) (p by_ : List UInt8) (hl : l.length ≤ 10000) : cellarerref09_True l p by_ = some (trueV l p by_) := by
  unfold cellarerref09_True trueV
  rw [refFind_eq l p hl]
  cases h : findV l p with
  | none => rfl
  | some i =>
    obtain ⟨h1, h2, h3⟩ := find_at h
    simp only [Option.bind_some, idxOf, show ¬ ((i : Int) < 0) by omega, decide_false, cond_false, Int.natCast_nonneg, true_and, natlt, h1, if_true, Int.toNat_natCast]
    by_cases c1 : by_ = []
    · rw [decide_eq_true c1, if_neg (fun h => h.1 (h.2.trans c1))]; rfl
    · by_cases c2 : (l.getD i ([], [], [])).2.2 = by_
      · rw [if_pos ⟨fun e => c1 (c2.symm.trans e), c2⟩, decide_eq_false c1, decide_eq_true c2]; rfl
      · rw [if_neg (fun h => c2 h.2), decide_eq_false c1, decide_eq_false c2]; rfl

/-! ### are two the same -/

theorem dvEq (x y : Dv) : (Decidable.decide (x.1 = y.1) && (Decidable.decide (x.2.1 = y.2.1) && Decidable.decide (x.2.2 = y.2.2))) = decide (x = y) := by
  obtain ⟨a, b, c⟩ := x
  obtain ⟨a', b', c'⟩ := y
  by_cases h1 : a = a' <;> by_cases h2 : b = b' <;> by_cases h3 : c = c' <;> simp [h1, h2, h3]

theorem dsame_loop (a b : List Dv) (hab : a.length = b.length) (ha : a.length < 1000002) : iter (cellarerref09_Same_b0 a b) (0 : Int) = some (if a = b then .inr () else .inl ()) := by
  have key : ∀ (r : List Dv) (k : Nat), a.drop k = r → iter (cellarerref09_Same_b0 a b) (k : Int) = some (if r = b.drop k then .inr () else .inl ()) := by
    intro r
    induction r with
    | nil =>
      intro k h
      have := drop_nil h
      have hb : b.drop k = [] := List.drop_eq_nil_of_le (by omega)
      rw [iter_inr (t := .inr ()), hb]
      · simp
      · unfold cellarerref09_Same_b0
        simp [show ¬ k < a.length by omega]
    | cons x r ih =>
      intro k h
      obtain ⟨g1, g2, g3⟩ := drop_cons h ([], [], [])
      have hkb : k < b.length := by omega
      have hb : b.drop k = b.getD k ([], [], []) :: b.drop (k + 1) := by
        rw [List.drop_eq_getElem_cons hkb, List.getD_eq_getElem?_getD, List.getElem?_eq_getElem hkb]; rfl
      have hbody : cellarerref09_Same_b0 a b (k : Int) = some (if x = b.getD k ([], [], []) then .inl ((k + 1 : Nat) : Int) else .inr (.inl ())) := by
        unfold cellarerref09_Same_b0
        simp only [natlt, g1, hkb, decide_true, cond_true, Int.natCast_nonneg, true_and, and_self, if_true, Int.toNat_natCast, g2, kplus g1 (by omega), dvEq]
        by_cases hx : x = b.getD k ([], [], [])
        · rw [if_pos hx, decide_eq_true hx]; rfl
        · rw [if_neg hx, decide_eq_false hx]; rfl
      by_cases hx : x = b.getD k ([], [], [])
      · rw [if_pos hx] at hbody
        rw [iter_inl hbody, ih (k + 1) g3, hb, ← hx]
        simp
      · rw [if_neg hx] at hbody
        rw [iter_inr hbody, hb, if_neg (fun e => hx (by simp only [List.cons.injEq] at e; exact e.1))]
  have := key a 0 rfl
  simpa using this

theorem dsame_eq (a b : List Dv) (ha : a.length < 1000002) : cellarerref09_Same a b = some (decide (a = b)) := by
  unfold cellarerref09_Same
  by_cases h : a.length = b.length
  · have hd : decide ((a.length : Int) = (b.length : Int)) = true := by simp; omega
    simp only [hd, Bool.not_true, cond_false]
    rw [dsame_loop a b h ha]
    by_cases hab : a = b <;> simp [hab]
  · have hd : decide ((a.length : Int) = (b.length : Int)) = false := by simp; omega
    have hab : a ≠ b := fun e => h (by rw [e])
    simp [hd, hab]

/-! ### the text -/

def byV (b : List UInt8) : List UInt8 := if b = [] then [58] else b
def textV (x : Dv) : List UInt8 := x.1 ++ [10] ++ x.2.1 ++ [10] ++ byV x.2.2 ++ [10]
def printV (l : List Dv) : List UInt8 := l.flatMap textV
def prnV (l : List Dv) : List UInt8 × Int := if checkV l = 0 then (printV l, 0) else ([], checkV l)

theorem byV_len (b : List UInt8) (h : b.length ≤ 10000) : (byV b).length ≤ 10000 := by
  unfold byV; split
  · simp
  · exact h

theorem textV_len {x : Dv} (h : Sh x) : (textV x).length ≤ 30003 := by
  obtain ⟨h1, h2, h3⟩ := h
  have := byV_len x.2.2 h3
  unfold textV
  simp
  omega

theorem print_loop (l : List Dv) (hl : ShL l) : ∀ (r : List Dv) (k : Nat) (s : List UInt8), l.drop k = r → s.length ≤ k * 30003 →
    iter (divs_Print_b0 l (l.length : Int)) (s, (k : Int)) = some (s ++ printV r) := by
  have hl1 := hl.1
  intro r
  induction r with
  | nil =>
    intro k s h hs
    have := drop_nil h
    rw [iter_inr (t := s)]
    · simp [printV]
    · unfold divs_Print_b0
      simp [show ¬ k < l.length by omega]
  | cons x r ih =>
    intro k s h hs
    obtain ⟨g1, g2, g3⟩ := drop_cons h ([], [], [])
    have hx : x ∈ l := List.mem_of_mem_drop (by rw [h]; simp)
    have hsh := hl.2 x hx
    have ht := textV_len hsh
    obtain ⟨h1, h2, h3⟩ := hsh
    have hb := byV_len x.2.2 h3
    rw [iter_inl (s' := (s ++ textV x, ((k + 1 : Nat) : Int))), ih (k + 1) _ g3 (by rw [List.length_append]; omega)]
    · simp [printV]
    · unfold divs_Print_b0
      have e : (bif Decidable.decide (x.2.2 = []) then some [(58 : UInt8)] else some x.2.2) = some (byV x.2.2) := by
        unfold byV; by_cases c : x.2.2 = [] <;> simp [c]
      simp only [natlt, g1, decide_true, cond_true, Int.natCast_nonneg, true_and, if_true, Int.toNat_natCast, g2, kplus g1 (by omega), e, Option.bind_some]
      rw [if_pos (by simp; omega), if_pos (by simp; omega), if_pos (by simp; omega), if_pos (by simp; omega), if_pos (by simp; omega), if_pos (by
        have : (x.1 ++ [10] ++ x.2.1 ++ [10] ++ byV x.2.2 ++ [10]).length ≤ 30003 := ht
        omega)]
      rfl

theorem print_eq (l : List Dv) (hl : ShL l) : divs_Print l = some (prnV l) := by
  unfold divs_Print prnV
  rw [check_eq l hl]
  by_cases c : checkV l = 0
  · have h : iter (divs_Print_b0 l (l.length : Int)) (([] : List UInt8), (0 : Int)) = _ := print_loop l hl l 0 [] rfl (by simp)
    simp only [Option.bind_some, c, decide_true, Bool.not_true, cond_false, if_true, h]
    rfl
  · simp [c]

theorem refPrint_loop (l : List Dv) (hl : ShL l) : ∀ (r : List Dv) (k : Nat) (s : List UInt8), l.drop k = r → s.length ≤ k * 30003 →
    iter (cellarerref09_Print_b0 l) (s, (k : Int)) = some (s ++ printV r) := by
  have hl1 := hl.1
  intro r
  induction r with
  | nil =>
    intro k s h hs
    have := drop_nil h
    rw [iter_inr (t := s)]
    · simp [printV]
    · unfold cellarerref09_Print_b0
      simp [show ¬ k < l.length by omega]
  | cons x r ih =>
    intro k s h hs
    obtain ⟨g1, g2, g3⟩ := drop_cons h ([], [], [])
    have hx : x ∈ l := List.mem_of_mem_drop (by rw [h]; simp)
    have hsh := hl.2 x hx
    have ht := textV_len hsh
    obtain ⟨h1, h2, h3⟩ := hsh
    have hb := byV_len x.2.2 h3
    rw [iter_inl (s' := (s ++ textV x, ((k + 1 : Nat) : Int))), ih (k + 1) _ g3 (by rw [List.length_append]; omega)]
    · simp [printV]
    · unfold cellarerref09_Print_b0
      have e : (bif !Decidable.decide (x.2.2 = []) then some x.2.2 else some [(58 : UInt8)]) = some (byV x.2.2) := by
        unfold byV; by_cases c : x.2.2 = [] <;> simp [c]
      simp only [natlt, g1, decide_true, cond_true, Int.natCast_nonneg, true_and, if_true, Int.toNat_natCast, g2, kplus g1 (by omega), e, Option.bind_some]
      rw [if_pos (by omega), if_pos (by simp; omega), if_pos (by simp; omega), if_pos (by simp; omega), if_pos (by simp; omega), if_pos (by simp; omega)]
      simp [textV]

theorem refPrint_eq (l : List Dv) (hl : ShL l) : cellarerref09_Print l = some (prnV l) := by
  unfold cellarerref09_Print prnV
  rw [refCheck_eq l hl]
  by_cases c : checkV l = 0
  · have h : iter (cellarerref09_Print_b0 l) (([] : List UInt8), (0 : Int)) = _ := refPrint_loop l hl l 0 [] rfl (by simp)
    simp only [Option.bind_some, c, decide_true, Bool.not_true, cond_false, if_true, h]
    rfl
  · simp [c]

/-! ### lines -/

def linesV (s : List UInt8) : Bool × List (List UInt8) := if s = [] then (true, []) else if endsSl_L s = true then (true, pieces_L s.dropLast []) else (false, [])

theorem dropLast_ends {s : List UInt8} (h : endsSl_L s = true) : s = s.dropLast ++ [10] := by
  have hne : s ≠ [] := by rintro rfl; simp [endsSl_L] at h
  have : s.getLast? = some 10 := by simpa [endsSl_L] using h
  rw [List.getLast?_eq_some_getLast hne] at this
  simp only [Option.some.injEq] at this
  conv => lhs; rw [← List.dropLast_concat_getLast hne, this]

theorem lines_eq (s : List UInt8) (hs : s.length < 1000000) : stanza_Lines s = some (if (linesV s).1 = true then 0 else 2, (linesV s).2) := by
  unfold stanza_Lines linesV
  by_cases h : s = []
  · simp [h]
  · have hp : 0 < s.length := List.length_pos_iff.mpr h
    rw [hasSuffix_eq_L s (by omega)]
    by_cases he : endsSl_L s = true
    · have e : IntKind.wrap IntKind.i64 ((s.length : Int) - 1) = ((s.length - 1 : Nat) : Int) := by rw [w64 (by omega) (by omega)]; omega
      simp only [h, he, decide_false, cond_false, if_false, if_true, Option.bind_some, Bool.not_true, e, Int.toNat_natCast, dropLast_take]
      rw [if_pos (by omega)]
      unfold strings_Split
      have h0 : List.drop (Int.toNat (0 : Int)) s.dropLast = s.dropLast := rfl
      rw [h0, genSplit_eq_L _ (by rw [List.length_dropLast]; omega)]
      rfl
    · have hf : endsSl_L s = false := by simpa using he
      simp [h, hf]

theorem refSplit_loop_L (s : List UInt8) (hs : s.length < 1000000) : ∀ (r : List UInt8) (k : Nat) (acc : List UInt8) (out : List (List UInt8)), s.drop k = r → k + r.length = s.length → acc.length ≤ k → out.length ≤ k →
    ∃ acc' out', iter (cellarerref06_Split_b0 s 10) (acc, (k : Int), out) = some (acc', out') ∧ out' ++ [acc'] = out ++ pieces_L r acc ∧ acc'.length ≤ s.length ∧ out'.length ≤ s.length := by
  intro r
  induction r with
  | nil =>
    intro k acc out h hk ha ho
    simp only [List.length_nil] at hk
    refine ⟨acc, out, ?_, ?_, by omega, by omega⟩
    · rw [iter_inr (t := (acc, out))]
      unfold cellarerref06_Split_b0
      simp [show ¬ k < s.length by omega]
    · simp only [pieces_L]
  | cons c r ih =>
    intro k acc out h hk ha ho
    simp only [List.length_cons] at hk
    obtain ⟨g1, g2, g3⟩ := drop_cons h 0
    have hb : cellarerref06_Split_b0 s 10 (acc, (k : Int), out) = some (.inl (if c = 10 then ([], ((k + 1 : Nat) : Int), out ++ [acc]) else (acc ++ [c], ((k + 1 : Nat) : Int), out))) := by
      unfold cellarerref06_Split_b0
      simp only [natlt, g1, decide_true, cond_true, Int.natCast_nonneg, true_and, if_true, Int.toNat_natCast, g2, kplus g1 (by omega), u8_L, slice1 h]
      by_cases hc : c = 10
      · simp only [hc, decide_true, cond_true, if_true, List.drop_zero, List.length_cons, List.length_nil]
        rw [if_pos (by omega)]
      · simp only [hc, decide_false, cond_false, if_false, List.length_cons, List.length_nil]
        rw [if_pos (by omega), if_pos (by omega)]
    rw [iter_inl hb]
    by_cases hc : c = 10
    · rw [if_pos hc]
      obtain ⟨acc', out', h1, h2, h3, h4⟩ := ih (k + 1) [] (out ++ [acc]) g3 (by omega) (by simp) (by simp; omega)
      refine ⟨acc', out', h1, ?_, h3, h4⟩
      rw [h2]
      simp only [pieces_L, hc, if_true]
      simp
    · rw [if_neg hc]
      obtain ⟨acc', out', h1, h2, h3, h4⟩ := ih (k + 1) (acc ++ [c]) out g3 (by omega) (by simp; omega) (by omega)
      refine ⟨acc', out', h1, ?_, h3, h4⟩
      rw [h2]
      simp only [pieces_L, hc, if_false]

theorem refSplit_eq_L (s : List UInt8) (hs : s.length < 1000000) : cellarerref06_Split s 10 = some (pieces_L s []) := by
  unfold cellarerref06_Split
  obtain ⟨acc, out, h1, h2, h3, h4⟩ := refSplit_loop_L s hs s 0 [] [] rfl (by simp) (by simp) (by simp)
  have h1' : iter (cellarerref06_Split_b0 s 10) (([] : List UInt8), (0 : Int), ([] : List (List UInt8))) = some (acc, out) := h1
  rw [h1']
  simp only [List.nil_append] at h2
  simp only [Option.bind_some, List.drop_zero, List.length_cons, List.length_nil]
  rw [if_pos (by omega), h2]

theorem pieces_snoc : ∀ (t acc : List UInt8), pieces_L (t ++ [10]) acc = pieces_L t acc ++ [[]] := by
  intro t
  induction t with
  | nil => intro acc; simp [pieces_L]
  | cons c r ih =>
    intro acc
    simp only [List.cons_append, pieces_L]
    split
    · rw [ih]; simp
    · rw [ih]

theorem pieces_last : ∀ (t acc : List UInt8) (c : UInt8), c ≠ 10 → ∃ q x, pieces_L (t ++ [c]) acc = q ++ [x ++ [c]] := by
  intro t
  induction t with
  | nil => intro acc c hc; exact ⟨[], acc, by simp [pieces_L, hc]⟩
  | cons y r ih =>
    intro acc c hc
    simp only [List.cons_append, pieces_L]
    split
    · obtain ⟨q, x, h⟩ := ih [] c hc
      exact ⟨acc :: q, x, by rw [h]; simp⟩
    · exact ih _ c hc

theorem pieces_ne : ∀ (t acc : List UInt8), pieces_L t acc ≠ [] := by
  intro t
  induction t with
  | nil => intro acc; simp [pieces_L]
  | cons c r ih =>
    intro acc
    simp only [pieces_L]
    split
    · simp
    · exact ih _

/-- The document's lines: the same, where it is right; else some lines. -/
theorem refLines_eq (s : List UInt8) (hs : s.length < 1000000) : cellarerref06_Lines s = some ((linesV s).1, (pieces_L s []).dropLast) ∧ ((linesV s).1 = true → (linesV s).2 = (pieces_L s []).dropLast) := by
  have hlen := pieces_L_len s []
  have hne := pieces_ne s []
  have hpos : 0 < (pieces_L s []).length := List.length_pos_iff.mpr hne
  constructor
  · unfold cellarerref06_Lines
    rw [refSplit_eq_L s hs]
    have e : IntKind.wrap IntKind.i64 (((pieces_L s []).length : Int) - ((0 : Nat) : Int) - 1) = (((pieces_L s []).length - 1 : Nat) : Int) := by rw [w64 (by omega) (by omega)]; omega
    simp only [Option.bind_some, e, Int.toNat_natCast, Nat.zero_add]
    rw [if_pos (by omega), if_pos (by omega), if_pos (by omega), dropLast_take]
    have e2 : (pieces_L s []).getD ((pieces_L s []).length - 1) [] = (pieces_L s []).getLast hne := by
      rw [List.getD_eq_getElem?_getD, List.getElem?_eq_getElem (by omega), List.getLast_eq_getElem]; rfl
    rw [e2]
    congr 2
    unfold linesV
    by_cases h : s = []
    · subst h; rfl
    · by_cases he : endsSl_L s = true
      · have hd := dropLast_ends he
        have hq : ∀ (l : List (List UInt8)) (hn : l ≠ []), l = pieces_L s.dropLast [] ++ [[]] → l.getLast hn = [] := by
          intro l hn hl; subst hl; simp
        rw [hq _ hne (by conv => lhs; rw [hd, pieces_snoc])]
        simp [h, he]
      · have hlast := List.dropLast_concat_getLast h
        have hc : s.getLast h ≠ 10 := by
          intro e
          apply he
          unfold endsSl_L
          rw [List.getLast?_eq_some_getLast h, e]
          simp
        obtain ⟨q, x, hqx⟩ := pieces_last s.dropLast [] _ hc
        rw [hlast] at hqx
        have hq : ∀ (l : List (List UInt8)) (hn : l ≠ []), l = q ++ [x ++ [s.getLast h]] → l.getLast hn ≠ [] := by
          intro l hn hl; subst hl; simp
        have := hq _ hne hqx
        simp [h, he, this]
  · intro h1
    unfold linesV at h1 ⊢
    by_cases h : s = []
    · subst h; rfl
    · by_cases he : endsSl_L s = true
      · have hd := dropLast_ends he
        simp only [h, he, if_false, if_true]
        conv => rhs; rw [hd, pieces_snoc]
        simp
      · simp [h, he] at h1

end Go.Cellar
