/- Lists of paths: which may be, the text, and back. No condition. -/
import Derived.Test.YtaopgboniaeeaaaDoorPl13e
set_option linter.unusedSimpArgs false
set_option linter.unusedVariables false
set_option maxRecDepth 8000
namespace Go.Cellar
open Go

theorem refSplit_loop_L (s : List UInt8) (hs : s.length < 1000000) : ∀ (r : List UInt8) (k : Nat) (acc : List UInt8) (out : List (List UInt8)), s.drop k = r → k + r.length = s.length → acc.length ≤ k → out.length ≤ k →
    ∃ acc' out', iter (cellarerref06_Split_b0 s 10) (acc, (k : Int), out) = some (acc', out') ∧ out' ++ [acc'] = out ++ pieces_L r acc ∧ acc'.length ≤ s.length ∧ out'.length ≤ s.length := by
  intro r
  induction r with
  | nil =>
    intro k acc out h hk ha ho
    simp only [List.length_nil] at hk
    refine ⟨acc, out, ?_, ?_, by omega, by omega⟩
    · rw [iter_inr (t := (acc, out))]
      unfold cellarerref06_Split_b0
      simp [show ¬ k < s.length by omega]
    · simp only [pieces_L]
  | cons c r ih =>
    intro k acc out h hk ha ho
    simp only [List.length_cons] at hk
    obtain ⟨g1, g2, g3⟩ := drop_cons h 0
    have hb : cellarerref06_Split_b0 s 10 (acc, (k : Int), out) = some (.inl (if c = 10 then ([], ((k + 1 : Nat) : Int), out ++ [acc]) else (acc ++ [c], ((k + 1 : Nat) : Int), out))) := by
      unfold cellarerref06_Split_b0
      simp only [natlt, g1, decide_true, cond_true, Int.natCast_nonneg, true_and, if_true, Int.toNat_natCast, g2, kplus g1 (by omega), u8_L, slice1 h]
      by_cases hc : c = 10
      · simp only [hc, decide_true, cond_true, if_true, List.drop_zero, List.length_cons, List.length_nil]
        rw [if_pos (by omega)]
      · simp only [hc, decide_false, cond_false, if_false, List.length_cons, List.length_nil]
        rw [if_pos (by omega), if_pos (by omega)]
    rw [iter_inl hb]
    by_cases hc : c = 10
    · rw [if_pos hc]
      obtain ⟨acc', out', h1, h2, h3, h4⟩ := ih (k + 1) [] (out ++ [acc]) g3 (by omega) (by simp) (by simp; omega)
      refine ⟨acc', out', h1, ?_, h3, h4⟩
      rw [h2]
      simp only [pieces_L, hc, if_true]
      simp
    · rw [if_neg hc]
      obtain ⟨acc', out', h1, h2, h3, h4⟩ := ih (k + 1) (acc ++ [c]) out g3 (by omega) (by simp; omega) (by omega)
      refine ⟨acc', out', h1, ?_, h3, h4⟩
      rw [h2]
      simp only [pieces_L, hc, if_false]

theorem refSplit_eq_L (s : List UInt8) (hs : s.length < 1000000) : cellarerref06_Split s 10 = some (pieces_L s []) := by
  unfold cellarerref06_Split
  obtain ⟨acc, out, h1, h2, h3, h4⟩ := refSplit_loop_L s hs s 0 [] [] rfl (by simp) (by simp) (by simp)
  have h1' : iter (cellarerref06_Split_b0 s 10) (([] : List UInt8), (0 : Int), ([] : List (List UInt8))) = some (acc, out) := h1
  rw [h1']
  simp only [List.nil_append] at h2
  simp only [Option.bind_some, List.drop_zero, List.length_cons, List.length_nil]
  rw [if_pos (by omega), h2]

theorem refLines_eq (s : List UInt8) (hs : s.length < 1000000) : cellarerref06_Lines s = some ((linesV s).1, (pieces_L s []).dropLast) ∧ ((linesV s).1 = true → (linesV s).2 = (pieces_L s []).dropLast) := by
  have hlen := pieces_L_len s []
  have hne := pieces_ne s []
  have hpos : 0 < (pieces_L s []).length := List.length_pos_iff.mpr hne
  constructor
  · unfold cellarerref06_Lines
    rw [refSplit_eq_L s hs]
    have e : IntKind.wrap IntKind.i64 (((pieces_L s []).length : Int) - ((0 : Nat) : Int) - 1) = (((pieces_L s []).length - 1 : Nat) : Int) := by rw [w64 (by omega) (by omega)]; omega
    simp only [Option.bind_some, e, Int.toNat_natCast, Nat.zero_add]
    rw [if_pos (by omega), if_pos (by omega), if_pos (by omega), dropLast_take]
    have e2 : (pieces_L s []).getD ((pieces_L s []).length - 1) [] = (pieces_L s []).getLast hne := by
      rw [List.getD_eq_getElem?_getD, List.getElem?_eq_getElem (by omega), List.getLast_eq_getElem]; rfl
    rw [e2]
    congr 2
    unfold linesV
    by_cases h : s = []
    · subst h; rfl
    · by_cases he : endsSl_L s = true
      · have hd := dropLast_ends he
        have hq : ∀ (l : List (List UInt8)) (hn : l ≠ []), l = pieces_L s.dropLast [] ++ [[]] → l.getLast hn = [] := by
          intro l hn hl; subst hl; simp
        rw [hq _ hne (by conv => lhs; rw [hd, pieces_snoc])]
        simp [h, he]
      · have hlast := List.dropLast_concat_getLast h
        have hc : s.getLast h ≠ 10 := by
          intro e
          apply he
          unfold endsSl_L
          rw [List.getLast?_eq_some_getLast h, e]
          simp
        obtain ⟨q, x, hqx⟩ := pieces_last s.dropLast [] _ hc
        rw [hlast] at hqx
        have hq : ∀ (l : List (List UInt8)) (hn : l ≠ []), l = q ++ [x ++ [s.getLast h]] → l.getLast hn ≠ [] := by
          intro l hn hl; subst hl; simp
        have := hq _ hne hqx
        simp [h, he, this]
  · intro h1
    unfold linesV at h1 ⊢
    by_cases h : s = []
    · subst h; rfl
    · by_cases he : endsSl_L s = true
      · have hd := dropLast_ends he
        simp only [h, he, if_false, if_true]
        conv => rhs; rw [hd, pieces_snoc]
        simp
      · simp [h, he] at h1

def ordP (l : List (List UInt8)) (k : Nat) (x : List UInt8) : Bool := decide (k = 0) || Go.Op.bytesLess (l.getD (k - 1) []) x
def chkP (l : List (List UInt8)) (k : Nat) (x : List UInt8) : Bool := rightV x && ordP l k x
def rightL (x : Ls) : Bool := allFrom (chkP x.2) 0 x.2 && (nameV x.1 && decide (x.2.length ≤ 64))

def SmP (l : List (List UInt8)) : Prop := l.length ≤ 10000 ∧ ∀ p ∈ l, p.length < 1000000

theorem allFrom_and {α : Type} (p q : Nat → α → Bool) : ∀ (r : List α) (k : Nat), allFrom (fun k x => p k x && q k x) k r = (allFrom p k r && allFrom q k r)
  | [], _ => rfl
  | x :: r, k => by
    simp only [allFrom, allFrom_and p q r (k + 1)]
    cases p k x <;> cases q k x <;> simp

theorem right_loop (l : List (List UInt8)) (hl : SmP l) : iter (lists_Right_b0 l (l.length : Int) l) (0 : Int) = some (if allFrom (chkP l) 0 l = true then .inr () else .inl ()) := by
  refine all_loop (lists_Right_b0 l (l.length : Int) l) (chkP l) l (fun k hk => ?_) (fun k x r h => ?_) l 0 rfl
  · unfold lists_Right_b0
    simp [show ¬ k < l.length by omega]
  · obtain ⟨g1, g2, g3⟩ := drop_cons h []
    have hx : x ∈ l := List.mem_of_mem_drop (by rw [h]; simp)
    have hsh := hl.2 x hx
    have hl1 := hl.1
    unfold lists_Right_b0 chkP
    simp only [natlt, g1, decide_true, cond_true, Int.natCast_nonneg, true_and, if_true, Int.toNat_natCast, g2, right_eq x hsh, Option.bind_some, kplus g1 (by omega)]
    cases hr : rightV x
    · simp
    · simp only [Bool.not_true, cond_false, Bool.true_and]
      by_cases hk : k = 0
      · subst hk
        simp [ordP]
      · have e : IntKind.wrap IntKind.i64 ((k : Int) - 1) = ((k - 1 : Nat) : Int) := by rw [w64 (by omega) (by omega)]; omega
        simp only [show ((0 : Int) < (k : Int)) by omega, decide_true, cond_true, e, Int.natCast_nonneg, true_and, natlt, show k - 1 < l.length by omega, if_true, Int.toNat_natCast, ordP, hk, decide_false, Bool.false_or]
        cases Go.Op.bytesLess (l.getD (k - 1) []) x <;> simp

theorem rightL_eq (n : List UInt8) (l : List (List UInt8)) (hl : SmP l) : lists_Right n l = some (rightL (n, l)) := by
  unfold lists_Right rightL
  rw [right_loop l hl]
  cases allFrom (chkP l) 0 l with
  | false => rfl
  | true =>
    simp only [if_true, Option.bind_some, Sum.elim_inr, name_eq, Bool.true_and]
    cases nameV n with
    | false => rfl
    | true =>
      simp only [cond_true, Bool.true_and, Option.some.injEq]
      by_cases h : l.length ≤ 64
      · rw [decide_eq_true h]; exact decide_eq_true (by omega)
      · rw [decide_eq_false h]; exact decide_eq_false (by omega)

theorem refRight_loop (l : List (List UInt8)) (hl : SmP l) : iter (cellarerref13_Right_b0 l) (0 : Int) = some (if allFrom (fun _ x => rightV x) 0 l = true then .inr () else .inl ()) := by
  refine all_loop (cellarerref13_Right_b0 l) (fun _ x => rightV x) l (fun k hk => ?_) (fun k x r h => ?_) l 0 rfl
  · unfold cellarerref13_Right_b0
    simp [show ¬ k < l.length by omega]
  · obtain ⟨g1, g2, g3⟩ := drop_cons h []
    have hx : x ∈ l := List.mem_of_mem_drop (by rw [h]; simp)
    have hsh := hl.2 x hx
    have hl1 := hl.1
    unfold cellarerref13_Right_b0
    simp only [natlt, g1, decide_true, cond_true, Int.natCast_nonneg, true_and, if_true, Int.toNat_natCast, g2, refRight_eq x hsh, Option.bind_some, kplus g1 (by omega)]
    cases hr : rightV x <;> simp

theorem rising_loop (l : List (List UInt8)) (hl : SmP l) : ∀ (r : List (List UInt8)) (k : Nat), l.drop k = r → 1 ≤ k → iter (cellarerref08_Rising_b0 l) (k : Int) = some (if allFrom (ordP l) k r = true then .inr () else .inl ()) := by
  have hl1 := hl.1
  intro r
  induction r with
  | nil =>
    intro k h hk
    have := drop_nil h
    rw [iter_inr (t := .inr ())]
    · simp [allFrom]
    · unfold cellarerref08_Rising_b0
      simp [show ¬ k < l.length by omega]
  | cons x r ih =>
    intro k h hk
    obtain ⟨g1, g2, g3⟩ := drop_cons h []
    have e : IntKind.wrap IntKind.i64 ((k : Int) - 1) = ((k - 1 : Nat) : Int) := by rw [w64 (by omega) (by omega)]; omega
    have ho : ordP l k x = Go.Op.bytesLess (l.getD (k - 1) []) x := by unfold ordP; rw [decide_eq_false (by omega), Bool.false_or]
    have hb : cellarerref08_Rising_b0 l (k : Int) = some (if Go.Op.bytesLess (l.getD (k - 1) []) x = true then .inl ((k + 1 : Nat) : Int) else .inr (.inl ())) := by
      unfold cellarerref08_Rising_b0
      simp only [natlt, g1, decide_true, cond_true, e, Int.natCast_nonneg, true_and, show k - 1 < l.length by omega, if_true, Int.toNat_natCast, g2, kplus g1 (by omega)]
      cases Go.Op.bytesLess (l.getD (k - 1) []) x <;> simp
    simp only [allFrom, ho]
    cases hc : Go.Op.bytesLess (l.getD (k - 1) []) x with
    | true =>
      rw [hc] at hb
      rw [iter_inl hb, ih (k + 1) g3 (by omega)]
      simp
    | false =>
      rw [hc] at hb
      rw [iter_inr hb]
      simp

theorem ord_from (l : List (List UInt8)) : allFrom (ordP l) 1 (l.drop 1) = allFrom (ordP l) 0 l := by
  cases l with
  | nil => rfl
  | cons x r => simp [allFrom, ordP]

theorem refRightL_eq (n : List UInt8) (l : List (List UInt8)) (hn : n.length < 4611686018427387904) (hl : SmP l) : cellarerref13_Right n l = some (rightL (n, l)) := by
  unfold cellarerref13_Right rightL
  rw [refRight_loop l hl]
  have ha : allFrom (chkP l) 0 l = (allFrom (fun _ x => rightV x) 0 l && allFrom (ordP l) 0 l) := allFrom_and (fun _ x => rightV x) (ordP l) l 0
  dsimp only
  rw [ha]
  cases allFrom (fun _ x => rightV x) 0 l with
  | false => rfl
  | true =>
    simp only [if_true, Option.bind_some, Sum.elim_inr, refName_eq n hn, Bool.true_and]
    cases nameV n with
    | false => simp
    | true =>
      simp only [cond_true, Bool.true_and]
      unfold cellarerref08_Rising
      have h1 : iter (cellarerref08_Rising_b0 l) (1 : Int) = _ := rising_loop l hl (l.drop 1) 1 rfl (Nat.le_refl _)
      rw [h1, ord_from]
      cases allFrom (ordP l) 0 l with
      | false => rfl
      | true =>
        simp only [if_true, Option.bind_some, Sum.elim_inr, Bool.true_and, Option.some.injEq]
        by_cases h : l.length ≤ 64
        · rw [decide_eq_true h]; exact decide_eq_true (by omega)
        · rw [decide_eq_false h]; exact decide_eq_false (by omega)

/-! ### which may be together -/

def SmL (l : List Ls) : Prop := l.length ≤ 10000 ∧ ∀ x ∈ l, x.1.length ≤ 10000 ∧ SmP x.2
def ordL (l : List Ls) (k : Nat) (x : Ls) : Bool := decide (k = 0) || Go.Op.bytesLess (l.getD (k - 1) ([], [])).1 x.1
def chkL (l : List Ls) (k : Nat) (x : Ls) : Bool := rightL x && ordL l k x
def checkL (l : List Ls) : Int := if 64 < l.length then 22 else if allFrom (chkL l) 0 l = true then 0 else 1

theorem checkL_loop (l : List Ls) (hl : SmL l) : iter (lists_Check_b0 l l (l.length : Int)) (0 : Int) = some (if allFrom (chkL l) 0 l = true then .inr () else .inl ()) := by
  refine all_loop (lists_Check_b0 l l (l.length : Int)) (chkL l) l (fun k hk => ?_) (fun k x r h => ?_) l 0 rfl
  · unfold lists_Check_b0
    simp [show ¬ k < l.length by omega]
  · obtain ⟨g1, g2, g3⟩ := drop_cons h ([], [])
    have hx : x ∈ l := List.mem_of_mem_drop (by rw [h]; simp)
    have hsh := hl.2 x hx
    have hl1 := hl.1
    unfold lists_Check_b0 chkL
    simp only [natlt, g1, decide_true, cond_true, Int.natCast_nonneg, true_and, if_true, Int.toNat_natCast, g2, rightL_eq x.1 x.2 hsh.2, Option.bind_some, kplus g1 (by omega)]
    cases hr : rightL (x.1, x.2)
    · have hr' : rightL x = false := hr
      simp [hr']
    · have hr' : rightL x = true := hr
      simp only [hr', Bool.not_true, cond_false, Bool.true_and]
      by_cases hk : k = 0
      · subst hk
        simp [ordL]
      · have e : IntKind.wrap IntKind.i64 ((k : Int) - 1) = ((k - 1 : Nat) : Int) := by rw [w64 (by omega) (by omega)]; omega
        simp only [show ((0 : Int) < (k : Int)) by omega, decide_true, cond_true, e, Int.natCast_nonneg, true_and, natlt, show k - 1 < l.length by omega, if_true, Int.toNat_natCast, ordL, hk, decide_false, Bool.false_or]
        cases Go.Op.bytesLess (l.getD (k - 1) ([], [])).1 x.1 <;> simp

theorem refCheckL_loop (l : List Ls) (hl : SmL l) : iter (cellarerref13_Check_b0 l) (0 : Int) = some (if allFrom (chkL l) 0 l = true then .inr () else .inl ()) := by
  refine all_loop (cellarerref13_Check_b0 l) (chkL l) l (fun k hk => ?_) (fun k x r h => ?_) l 0 rfl
  · unfold cellarerref13_Check_b0
    simp [show ¬ k < l.length by omega]
  · obtain ⟨g1, g2, g3⟩ := drop_cons h ([], [])
    have hx : x ∈ l := List.mem_of_mem_drop (by rw [h]; simp)
    have hsh := hl.2 x hx
    have hl1 := hl.1
    unfold cellarerref13_Check_b0 chkL
    simp only [natlt, g1, decide_true, cond_true, Int.natCast_nonneg, true_and, if_true, Int.toNat_natCast, g2, refRightL_eq x.1 x.2 (by omega) hsh.2, Option.bind_some, kplus g1 (by omega)]
    cases hr : rightL (x.1, x.2)
    · have hr' : rightL x = false := hr
      simp [hr']
    · have hr' : rightL x = true := hr
      simp only [hr', Bool.not_true, cond_false, Bool.true_and]
      by_cases hk : k = 0
      · subst hk
        simp [ordL]
      · have e : IntKind.wrap IntKind.i64 ((k : Int) - 1) = ((k - 1 : Nat) : Int) := by rw [w64 (by omega) (by omega)]; omega
        simp only [show ((0 : Int) < (k : Int)) by omega, decide_true, cond_true, e, Int.natCast_nonneg, true_and, natlt, show k - 1 < l.length by omega, if_true, Int.toNat_natCast, ordL, hk, decide_false, Bool.false_or]
        cases Go.Op.bytesLess (l.getD (k - 1) ([], [])).1 x.1 <;> simp

theorem checkL_eq (l : List Ls) (hl : SmL l) : lists_Check l = some (checkL l) := by
  unfold lists_Check checkL
  by_cases h : 64 < l.length
  · simp [h, show (64 : Int) < (l.length : Int) by omega]
  · rw [checkL_loop l hl]
    simp only [h, show ¬ (64 : Int) < (l.length : Int) by omega, decide_false, cond_false, if_false]
    cases allFrom (chkL l) 0 l <;> rfl

theorem refCheckL_eq (l : List Ls) (hl : SmL l) : cellarerref13_Check l = some (checkL l) := by
  unfold cellarerref13_Check checkL
  by_cases h : 64 < l.length
  · simp [h, show (64 : Int) < (l.length : Int) by omega]
  · rw [refCheckL_loop l hl]
    simp only [h, show ¬ (64 : Int) < (l.length : Int) by omega, decide_false, cond_false, if_false]
    cases allFrom (chkL l) 0 l <;> rfl

/-! ### the text -/

theorem joinL_len : ∀ (l : List (List UInt8)), (∀ p ∈ l, p.length ≤ 1000000) → (joinL l).length ≤ l.length * 1000001
  | [], _ => by simp [joinL]
  | x :: r, h => by
    have h1 := h x (by simp)
    have := joinL_len r fun y hy => h y (by simp [hy])
    simp only [joinL, List.flatMap_cons, List.length_append, List.length_cons, List.length_nil] at this ⊢
    omega

theorem printL_loop (l : List (List UInt8)) (hl : SmP l) : ∀ (r : List (List UInt8)) (k : Nat) (s : List UInt8), l.drop k = r → s.length ≤ k * 1000001 →
    iter (lists_Print_b0 l (l.length : Int)) ((k : Int), s) = some (s ++ joinL r) := by
  have hl1 := hl.1
  intro r
  induction r with
  | nil =>
    intro k s h hs
    have := drop_nil h
    rw [iter_inr (t := s)]
    · simp [joinL]
    · unfold lists_Print_b0
      simp [show ¬ k < l.length by omega]
  | cons x r ih =>
    intro k s h hs
    obtain ⟨g1, g2, g3⟩ := drop_cons h []
    have hx : x ∈ l := List.mem_of_mem_drop (by rw [h]; simp)
    have hsh := hl.2 x hx
    rw [iter_inl (s' := (((k + 1 : Nat) : Int), s ++ x ++ [10])), ih (k + 1) _ g3 (by simp only [List.length_append, List.length_cons, List.length_nil]; omega)]
    · simp [joinL]
    · unfold lists_Print_b0 x__strings_Builder__WriteString x__strings_Builder__WriteByte
      simp only [natlt, g1, decide_true, cond_true, Int.natCast_nonneg, true_and, if_true, Int.toNat_natCast, g2, kplus g1 (by omega)]
      rw [if_pos (by omega)]
      simp only [Option.bind_some]
      rw [if_pos ⟨by omega, by omega, by simp only [List.length_append]; omega⟩]
      rfl

theorem refPrintL_loop (l : List (List UInt8)) (hl : SmP l) : ∀ (r : List (List UInt8)) (k : Nat) (s : List UInt8), l.drop k = r → s.length ≤ k * 1000001 →
    iter (cellarerref13_Print_b0 l) (s, (k : Int)) = some (s ++ joinL r) := by
  have hl1 := hl.1
  intro r
  induction r with
  | nil =>
    intro k s h hs
    have := drop_nil h
    rw [iter_inr (t := s)]
    · simp [joinL]
    · unfold cellarerref13_Print_b0
      simp [show ¬ k < l.length by omega]
  | cons x r ih =>
    intro k s h hs
    obtain ⟨g1, g2, g3⟩ := drop_cons h []
    have hx : x ∈ l := List.mem_of_mem_drop (by rw [h]; simp)
    have hsh := hl.2 x hx
    rw [iter_inl (s' := (s ++ x ++ [10], ((k + 1 : Nat) : Int))), ih (k + 1) _ g3 (by simp only [List.length_append, List.length_cons, List.length_nil]; omega)]
    · simp [joinL]
    · unfold cellarerref13_Print_b0
      simp only [natlt, g1, decide_true, cond_true, Int.natCast_nonneg, true_and, if_true, Int.toNat_natCast, g2, kplus g1 (by omega)]
      rw [if_pos (by omega), if_pos (by simp only [List.length_append, List.length_cons, List.length_nil]; omega)]

def prnL (x : Ls) : List UInt8 × Int := if rightL x = true then (joinL x.2, 0) else ([], 1)

theorem printL_eq (n : List UInt8) (l : List (List UInt8)) (hl : SmP l) : lists_Print n l = some (prnL (n, l)) := by
  unfold lists_Print prnL
  rw [rightL_eq n l hl]
  simp only [Option.bind_some]
  cases rightL (n, l) with
  | false => rfl
  | true =>
    have h : iter (lists_Print_b0 l (l.length : Int)) ((0 : Int), ([] : List UInt8)) = _ := printL_loop l hl l 0 [] rfl (by simp)
    have hj := joinL_len l fun p hp => Nat.le_of_lt (hl.2 p hp)
    have hl1 := hl.1
    simp only [Bool.not_true, cond_false, h, Option.bind_some, List.nil_append, if_true]
    unfold x__strings_Builder__String
    rw [if_pos (by omega)]
    rfl

theorem refPrintL_eq (n : List UInt8) (l : List (List UInt8)) (hn : n.length < 4611686018427387904) (hl : SmP l) : cellarerref13_Print n l = some (prnL (n, l)) := by
  unfold cellarerref13_Print prnL
  rw [refRightL_eq n l hn hl]
  simp only [Option.bind_some]
  cases rightL (n, l) with
  | false => rfl
  | true =>
    have h : iter (cellarerref13_Print_b0 l) (([] : List UInt8), (0 : Int)) = _ := refPrintL_loop l hl l 0 [] rfl (by simp)
    simp only [Bool.not_true, cond_false, h, Option.bind_some, List.nil_append, if_true]

/-! ### the same -/

theorem same_refl (a : List (List UInt8)) (ha : a.length < 1000002) : cellarerref02_Same a a = some true := by
  unfold cellarerref02_Same
  have h := all_loop (cellarerref02_Same_b0 a a) (fun _ _ => true) a (fun k hk => by
    unfold cellarerref02_Same_b0
    simp [show ¬ k < a.length by omega]) (fun k x r hd => by
    obtain ⟨g1, g2, g3⟩ := drop_cons hd []
    unfold cellarerref02_Same_b0
    simp only [natlt, g1, decide_true, cond_true, Int.natCast_nonneg, true_and, if_true, Int.toNat_natCast, g2, kplus g1 (by omega), Bool.not_true, cond_false]) a 0 rfl
  have h' : iter (cellarerref02_Same_b0 a a) (0 : Int) = _ := h
  rw [h', allFrom_const]
  simp

theorem lsame_refl (a : List Ls) (ha : a.length < 1000002) (hs : ∀ x ∈ a, x.2.length < 1000002) : cellarerref13_Same a a = some true := by
  unfold cellarerref13_Same
  have h := all_loop (cellarerref13_Same_b0 a a) (fun _ _ => true) a (fun k hk => by
    unfold cellarerref13_Same_b0
    simp [show ¬ k < a.length by omega]) (fun k x r hd => by
    obtain ⟨g1, g2, g3⟩ := drop_cons hd ([], [])
    have hx : x ∈ a := List.mem_of_mem_drop (by rw [hd]; simp)
    unfold cellarerref13_Same_b0
    simp only [natlt, g1, decide_true, cond_true, Int.natCast_nonneg, true_and, if_true, Int.toNat_natCast, g2, kplus g1 (by omega), Bool.not_true, cond_false, same_refl x.2 (hs x hx), Option.bind_some]) a 0 rfl
  have h' : iter (cellarerref13_Same_b0 a a) (0 : Int) = _ := h
  rw [h', allFrom_const]
  simp

/-! ### back -/

theorem right_no10 {s : List UInt8} (h : rightV s = true) : ∀ c ∈ s, c ≠ 10 := plain_no10 h

theorem rightL_no10 {x : Ls} (h : rightL x = true) : ∀ s ∈ x.2, ∀ c ∈ s, c ≠ 10 := by
  unfold rightL at h
  simp only [Bool.and_eq_true] at h
  intro s hs
  obtain ⟨i, hi⟩ := List.getElem?_of_mem hs
  have := (allFrom_iff (chkP x.2) x.2 0).mp h.1 i s hi
  unfold chkP at this
  simp only [Bool.and_eq_true] at this
  exact right_no10 this.1

def parseL (n s : List UInt8) : List UInt8 × List (List UInt8) × Int := if (linesV s).1 = true ∧ rightL (n, (linesV s).2) = true then (n, (linesV s).2, 0) else ([], [], 2)

theorem parseL_eq (n s : List UInt8) (hs : s.length < 1000000) (hl : SmP (linesV s).2) : lists_Parse n s = some (parseL n s) := by
  unfold lists_Parse parseL
  rw [lines_eq s hs]
  simp only [Option.bind_some, List.drop_zero]
  by_cases h1 : (linesV s).1 = true
  · rw [if_pos h1]
    simp only [decide_true, Bool.not_true, cond_false, rightL_eq n _ hl, Option.bind_some, h1, true_and]
    cases hr : rightL (n, (linesV s).2) <;> simp
  · rw [if_neg h1, if_neg fun q => h1 q.1]
    rfl

theorem awake13 : cellarerlaw13_awake = some true := by kernel_rfl

theorem fact_sm {x : Ls} (h : FactL x) : SmP x.2 := ⟨by have := h.2.1; omega, fun p hp => by have := h.2.2 p hp; omega⟩

theorem ListsPrints_true (n : List UInt8) (ps : List (List UInt8)) (l : List Ls) : cellarerlaw13_ListsPrints n ps l = some true := by
  unfold cellarerlaw13_ListsPrints
  obtain ⟨b1, e1, f1⟩ := few13 [(n, ps)]
  obtain ⟨b2, e2, f2⟩ := few13 l
  rw [e1, awake13, e2]
  cases b1 with
  | false => rfl
  | true =>
    cases b2 with
    | false => rfl
    | true =>
      have hx := (f1 rfl).2 (n, ps) (by simp)
      obtain ⟨hl, hf⟩ := f2 rfl
      have hsm : SmP ps := fact_sm hx
      have hL : SmL l := ⟨by omega, fun y hy => ⟨by have := (hf y hy).1; omega, fact_sm (hf y hy)⟩⟩
      have hn : n.length ≤ 300 := hx.1
      simp only [Option.bind_some, Bool.not_true, cond_false, Sum.elim_inr, printL_eq n ps hsm, refPrintL_eq n ps (by omega) hsm, rightL_eq n ps hsm, refRightL_eq n ps (by omega) hsm, checkL_eq l hL, refCheckL_eq l hL, decide_true]
      cases hr : rightL (n, ps) with
      | false => simp [prnL, hr]
      | true =>
        have hj := joinL_len ps fun p hp => by have := hx.2.2 p hp; omega
        have hjl : (joinL ps).length < 1000000 := by
          have hj2 : ∀ (q : List (List UInt8)), (∀ p ∈ q, p.length ≤ 4000) → (joinL q).length ≤ q.length * 4001 := by
            intro q
            induction q with
            | nil => intro _; simp [joinL]
            | cons y r ih =>
              intro h
              have h1 := h y (by simp)
              have h2 := ih fun z hz => h z (by simp [hz])
              simp only [joinL, List.flatMap_cons, List.length_append, List.length_cons, List.length_nil] at h2 ⊢
              omega
          have h3 := hj2 ps hx.2.2
          have h4 : ps.length ≤ 70 := hx.2.1
          omega
        have hlo := lines_of ps (rightL_no10 hr)
        have hp : lists_Parse n (joinL ps) = some (n, ps, 0) := by
          rw [parseL_eq n _ hjl (by rw [hlo]; exact hsm)]
          unfold parseL
          rw [hlo, if_pos ⟨rfl, hr⟩]
        simp only [prnL, hr, if_true, decide_true, Bool.not_true, cond_false, hp, Option.bind_some, cond_true, lsame_refl [(n, ps)] (by simp) (fun y hy => by simp at hy; subst hy; have : ps.length ≤ 70 := hx.2.1; simp only; omega)]

end Go.Cellar
