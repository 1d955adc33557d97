/- Interests as a text, and back. No condition. -/
import Derived.Test.YtjdjmbogopadaaaGreatDoorPl12f
set_option linter.unusedSimpArgs false
set_option linter.unusedVariables false
set_option maxRecDepth 4000
namespace Go.Cellar
open Go

def markN : List UInt8 := [47, 110, 111, 97, 119, 97, 105, 116]
def packN (x : Nt) : List UInt8 := if x.2.2 = true then x.2.1 ++ markN else x.2.1
def lineN (x : Nt) : List UInt8 := x.1 ++ [32] ++ packN x
def textN (x : Nt) : List UInt8 := lineN x ++ [10]
def printN (l : List Nt) : List UInt8 := l.flatMap textN
def prnN (l : List Nt) : List UInt8 × Int := if checkN l = 0 then (printN l, 0) else ([], checkN l)

theorem textN_len {x : Nt} (h : x.1.length ≤ 10000 ∧ x.2.1.length ≤ 10000) : (textN x).length ≤ 20020 := by
  unfold textN lineN packN
  split <;> simp [markN] <;> omega

theorem textN_yes {x : Nt} (h : x.2.2 = true) (s : List UInt8) : s ++ textN x = s ++ (x.1 ++ [32] ++ x.2.1) ++ markN ++ [10] := by
  unfold textN lineN packN
  rw [if_pos h]
  simp
theorem textN_no {x : Nt} (h : x.2.2 = false) (s : List UInt8) : s ++ textN x = s ++ (x.1 ++ [32] ++ x.2.1) ++ [10] := by
  unfold textN lineN packN
  rw [if_neg (by rw [h]; simp)]
  simp

theorem printN_loop (l : List Nt) (hl : ShN l) : ∀ (r : List Nt) (k : Nat) (s : List UInt8), l.drop k = r → s.length ≤ k * 20020 →
    iter (trigs_Print_b0 l (l.length : Int)) (s, (k : Int)) = some (s ++ printN r) := by
  have hl1 := hl.1
  intro r
  induction r with
  | nil =>
    intro k s h hs
    have := drop_nil h
    rw [iter_inr (t := s)]
    · simp [printN]
    · unfold trigs_Print_b0
      simp [show ¬ k < l.length by omega]
  | cons x r ih =>
    intro k s h hs
    obtain ⟨g1, g2, g3⟩ := drop_cons h ([], [], false)
    have hx : x ∈ l := List.mem_of_mem_drop (by rw [h]; simp)
    have hsh := hl.2 x hx
    have ht := textN_len hsh
    obtain ⟨h1, h2⟩ := hsh
    rw [iter_inl (s' := (s ++ textN x, ((k + 1 : Nat) : Int))), ih (k + 1) _ g3 (by rw [List.length_append]; omega)]
    · simp [printN]
    · unfold trigs_Print_b0
      simp only [natlt, g1, decide_true, cond_true, Int.natCast_nonneg, true_and, if_true, Int.toNat_natCast, g2, kplus g1 (by omega)]
      rw [if_pos (by first | omega | (simp; omega)), if_pos (by first | omega | (simp; omega)), if_pos (by first | omega | (simp; omega))]
      cases hm : x.2.2 with
      | true =>
        rw [textN_yes hm]
        simp only [cond_true]
        rw [if_pos (by first | omega | (simp; omega)), if_pos (by first | omega | (simp; omega))]
        rfl
      | false =>
        rw [textN_no hm]
        simp only [cond_false]
        rw [if_pos (by first | omega | (simp; omega))]

theorem refPrintN_loop (l : List Nt) (hl : ShN l) : ∀ (r : List Nt) (k : Nat) (s : List UInt8), l.drop k = r → s.length ≤ k * 20020 →
    iter (cellarerref12_Print_b0 l) (s, (k : Int)) = some (s ++ printN r) := by
  have hl1 := hl.1
  intro r
  induction r with
  | nil =>
    intro k s h hs
    have := drop_nil h
    rw [iter_inr (t := s)]
    · simp [printN]
    · unfold cellarerref12_Print_b0
      simp [show ¬ k < l.length by omega]
  | cons x r ih =>
    intro k s h hs
    obtain ⟨g1, g2, g3⟩ := drop_cons h ([], [], false)
    have hx : x ∈ l := List.mem_of_mem_drop (by rw [h]; simp)
    have hsh := hl.2 x hx
    have ht := textN_len hsh
    obtain ⟨h1, h2⟩ := hsh
    rw [iter_inl (s' := (s ++ textN x, ((k + 1 : Nat) : Int))), ih (k + 1) _ g3 (by rw [List.length_append]; omega)]
    · simp [printN]
    · unfold cellarerref12_Print_b0
      simp only [natlt, g1, decide_true, cond_true, Int.natCast_nonneg, true_and, if_true, Int.toNat_natCast, g2, kplus g1 (by omega)]
      rw [if_pos (by first | omega | (simp; omega)), if_pos (by first | omega | (simp; omega)), if_pos (by first | omega | (simp; omega))]
      cases hm : x.2.2 with
      | true =>
        rw [textN_yes hm]
        simp only [cond_true]
        rw [if_pos (by first | omega | (simp; omega)), if_pos (by first | omega | (simp; omega))]
        simp [markN]
      | false =>
        rw [textN_no hm]
        simp only [cond_false]
        rw [if_pos (by first | omega | (simp; omega))]
        simp

theorem printN_eq (l : List Nt) (hl : ShN l) : trigs_Print l = some (prnN l) := by
  unfold trigs_Print prnN
  rw [checkN_eq l hl]
  by_cases c : checkN l = 0
  · have h : iter (trigs_Print_b0 l (l.length : Int)) (([] : List UInt8), (0 : Int)) = _ := printN_loop l hl l 0 [] rfl (by simp)
    simp only [Option.bind_some, c, decide_true, Bool.not_true, cond_false, if_true, h]
    rfl
  · simp [c]

theorem refPrintN_eq (l : List Nt) (hl : ShN l) : cellarerref12_Print l = some (prnN l) := by
  unfold cellarerref12_Print prnN
  rw [refCheckN_eq l hl]
  by_cases c : checkN l = 0
  · have h : iter (cellarerref12_Print_b0 l) (([] : List UInt8), (0 : Int)) = _ := refPrintN_loop l hl l 0 [] rfl (by simp)
    simp only [Option.bind_some, c, decide_true, Bool.not_true, cond_false, if_true, h]
    rfl
  · simp [c]

/-! ### are two the same -/

theorem ntEq (x y : Nt) : (Decidable.decide (x.1 = y.1) && (Decidable.decide (x.2.1 = y.2.1) && Decidable.decide (x.2.2 = y.2.2))) = decide (x = y) := by
  obtain ⟨a, b, c⟩ := x
  obtain ⟨a', b', c'⟩ := y
  by_cases h1 : a = a' <;> by_cases h2 : b = b' <;> by_cases h3 : c = c' <;> simp [h1, h2, h3]

theorem nsame_loop (a b : List Nt) (hab : a.length = b.length) (ha : a.length < 1000002) : iter (cellarerref12_Same_b0 a b) (0 : Int) = some (if a = b then .inr () else .inl ()) := by
  have key : ∀ (r : List Nt) (k : Nat), a.drop k = r → iter (cellarerref12_Same_b0 a b) (k : Int) = some (if r = b.drop k then .inr () else .inl ()) := by
    intro r
    induction r with
    | nil =>
      intro k h
      have := drop_nil h
      have hb : b.drop k = [] := List.drop_eq_nil_of_le (by omega)
      rw [iter_inr (t := .inr ()), hb]
      · simp
      · unfold cellarerref12_Same_b0
        simp [show ¬ k < a.length by omega]
    | cons x r ih =>
      intro k h
      obtain ⟨g1, g2, g3⟩ := drop_cons h ([], [], false)
      have hkb : k < b.length := by omega
      have hb : b.drop k = b.getD k ([], [], false) :: b.drop (k + 1) := by
        rw [List.drop_eq_getElem_cons hkb, List.getD_eq_getElem?_getD, List.getElem?_eq_getElem hkb]; rfl
      have hbody : cellarerref12_Same_b0 a b (k : Int) = some (if x = b.getD k ([], [], false) then .inl ((k + 1 : Nat) : Int) else .inr (.inl ())) := by
        unfold cellarerref12_Same_b0
        simp only [natlt, g1, hkb, decide_true, cond_true, Int.natCast_nonneg, true_and, and_self, if_true, Int.toNat_natCast, g2, kplus g1 (by omega), ntEq]
        by_cases hx : x = b.getD k ([], [], false)
        · rw [if_pos hx, decide_eq_true hx]; rfl
        · rw [if_neg hx, decide_eq_false hx]; rfl
      by_cases hx : x = b.getD k ([], [], false)
      · rw [if_pos hx] at hbody
        rw [iter_inl hbody, ih (k + 1) g3, hb, ← hx]
        simp
      · rw [if_neg hx] at hbody
        rw [iter_inr hbody, hb, if_neg (fun e => hx (by simp only [List.cons.injEq] at e; exact e.1))]
  have := key a 0 rfl
  simpa using this

theorem nsame_eq (a b : List Nt) (ha : a.length < 1000002) : cellarerref12_Same a b = some (decide (a = b)) := by
  unfold cellarerref12_Same
  by_cases h : a.length = b.length
  · have hd : decide ((a.length : Int) = (b.length : Int)) = true := by simp; omega
    simp only [hd, Bool.not_true, cond_false]
    rw [nsame_loop a b h ha]
    by_cases hab : a = b <;> simp [hab]
  · have hd : decide ((a.length : Int) = (b.length : Int)) = false := by simp; omega
    have hab : a ≠ b := fun e => h (by rw [e])
    simp [hd, hab]

/-! ### few -/

def fewN (l : List Nt) : Bool := decide (l.length ≤ 70) && l.all fun x => decide (x.1.length ≤ 300) && decide (x.2.1.length ≤ 300)

theorem if300 (n : Nat) : ((300 : Int) < (n : Int)) = ¬ (n ≤ 300) := propext (by omega)

theorem fewN_eq (l : List Nt) : cellarerlaw12_Few l = some (fewN l) := by
  unfold cellarerlaw12_Few fewN
  by_cases h : l.length ≤ 70
  · rw [decide_eq_false (by omega), decide_eq_true h]
    simp only [cond_false, Bool.true_and]
    have hloop : iter (cellarerlaw12_Few_b0 l) (0 : Int) = some (if allFrom (fun _ (x : Nt) => decide (x.1.length ≤ 300) && decide (x.2.1.length ≤ 300)) 0 l = true then .inr () else .inl ()) := by
      refine all_loop (cellarerlaw12_Few_b0 l) (fun _ (x : Nt) => decide (x.1.length ≤ 300) && decide (x.2.1.length ≤ 300)) l (fun k hk => ?_) (fun k x r hd => ?_) l 0 rfl
      · unfold cellarerlaw12_Few_b0
        simp [show ¬ k < l.length by omega]
      · obtain ⟨g1, g2, g3⟩ := drop_cons hd ([], [], false)
        unfold cellarerlaw12_Few_b0
        simp only [natlt, g1, decide_true, cond_true, Int.natCast_nonneg, true_and, if_true, Int.toNat_natCast, g2, kplus g1 (by omega), if300]
        by_cases h1 : x.1.length ≤ 300 <;> by_cases h2 : x.2.1.length ≤ 300 <;> simp [h1, h2]
    rw [hloop, allFrom_const]
    cases (l.all fun x => decide (x.1.length ≤ 300) && decide (x.2.1.length ≤ 300)) <;> rfl
  · rw [decide_eq_true (by omega), decide_eq_false h]; rfl

theorem fewN_sh {l : List Nt} (h : fewN l = true) : ShN l ∧ l.length ≤ 70 ∧ ∀ x ∈ l, x.1.length ≤ 300 ∧ x.2.1.length ≤ 300 := by
  unfold fewN at h
  simp only [Bool.and_eq_true, decide_eq_true_eq, List.all_eq_true] at h
  exact ⟨⟨by omega, fun x hx => ⟨by have := (h.2 x hx).1; omega, by have := (h.2 x hx).2; omega⟩⟩, h.1, h.2⟩

/-! ### back again -/

theorem index_at (c : UInt8) : ∀ (a b : List UInt8), (∀ x ∈ a, x ≠ c) → Lib.index (a ++ c :: b) [c] = a.length
  | [], b, _ => by simp [Lib.index, List.isPrefixOf]
  | x :: a, b, h => by
    have ih := index_at c a b fun y hy => h y (by simp [hy])
    have hx : ¬ c = x := fun e => h x (by simp) e.symm
    rw [List.cons_append]
    unfold Lib.index
    have h2 : ([c].isPrefixOf (x :: (a ++ c :: b))) = false := by simp [List.isPrefixOf, hx]
    rw [h2, ih]
    have h3 : ¬ (((a.length : Int) == -1) = true) := by simp
    simp only [Bool.false_eq_true, if_false]
    rw [if_neg h3]
    simp

theorem cut_at (a b : List UInt8) (h : ∀ x ∈ a, x ≠ 32) (hl : (a ++ 32 :: b).length < 1000000) : strings_Cut (a ++ 32 :: b) [32] = some (a, b, true) := by
  unfold strings_Cut stringslite_Cut stringslite_Index
  rw [if_pos (by omega), index_at 32 a b h]
  simp only [Option.bind_some]
  have e1 : IntKind.wrap IntKind.i64 ((a.length : Int) + ((([32] : List UInt8).length : Nat) : Int)) = ((a.length + 1 : Nat) : Int) := by
    rw [w64 (by simp; omega) (by simp at hl ⊢; omega)]; simp
  rw [decide_eq_true (by omega), if_pos ⟨by omega, by omega, by simp; omega⟩, e1, if_pos ⟨by omega, by simp; omega, by omega⟩]
  simp only [cond_true, Option.bind_some, Int.toNat_natCast, Int.toNat_zero, List.drop_zero, Option.some.injEq, Prod.mk.injEq]
  refine ⟨by simp, ?_, by trivial⟩
  rw [List.take_length]
  have : a ++ 32 :: b = (a ++ [32]) ++ b := by simp
  rw [this, show a.length + 1 = (a ++ [32]).length by simp, List.drop_left]

theorem cutSuf_yes (p : List UInt8) (hl : p.length < 900000) : strings_CutSuffix (p ++ markN) markN = some (p, true) := by
  unfold strings_CutSuffix stringslite_CutSuffix stringslite_HasSuffix
  have hm : markN.length = 8 := rfl
  have e1 : IntKind.wrap IntKind.i64 (((p ++ markN).length : Int) - (markN.length : Int)) = (p.length : Int) := by
    rw [List.length_append, w64 (by omega) (by omega)]; omega
  rw [e1, decide_eq_true (by rw [List.length_append]; omega), if_pos ⟨by omega, by rw [List.length_append]; omega, by omega⟩]
  simp only [cond_true, Option.bind_some, Int.toNat_natCast, List.take_length, List.drop_left, decide_true, Bool.not_true, cond_false]
  rw [if_pos ⟨by omega, by omega, by rw [List.length_append]; omega⟩]
  simp

theorem cutSuf_no (p : List UInt8) (h : ∀ c ∈ p, c ≠ 47) (hl : p.length < 900000) : strings_CutSuffix p markN = some (p, false) := by
  unfold strings_CutSuffix stringslite_CutSuffix stringslite_HasSuffix
  have hm : markN.length = 8 := rfl
  by_cases h8 : markN.length ≤ p.length
  · have e1 : IntKind.wrap IntKind.i64 ((p.length : Int) - (markN.length : Int)) = ((p.length - markN.length : Nat) : Int) := by
      rw [w64 (by omega) (by omega)]; omega
    rw [e1, decide_eq_true (by omega), if_pos ⟨by omega, by omega, by omega⟩]
    have hne : ¬ (p.drop (p.length - markN.length) = markN) := fun e => by
      have : (47 : UInt8) ∈ p := List.mem_of_mem_drop (i := p.length - markN.length) (by rw [e]; simp [markN])
      exact h 47 this rfl
    simp only [cond_true, Option.bind_some, Int.toNat_natCast, List.take_length, decide_eq_false hne, Bool.not_false]
  · rw [decide_eq_false (by omega)]
    rfl

theorem name_chars {s : List UInt8} (h : nameV s = true) : ∀ c ∈ s, c ≠ 10 ∧ c ≠ 32 ∧ c ≠ 47 := by
  unfold nameV at h
  simp only [Bool.and_eq_true] at h
  intro c hc
  obtain ⟨k, hk⟩ := allFrom_mem _ _ h.2 c hc
  unfold nameAt at hk
  refine ⟨fun e => ?_, fun e => ?_, fun e => ?_⟩ <;> subst e
  · have h1 : isWord 10 = false := by decide
    have h2 : isMark 10 = false := by decide
    rw [h1, h2] at hk; simp at hk
  · have h1 : isWord 32 = false := by decide
    have h2 : isMark 32 = false := by decide
    rw [h1, h2] at hk; simp at hk
  · have h1 : isWord 47 = false := by decide
    have h2 : isMark 47 = false := by decide
    rw [h1, h2] at hk; simp at hk

theorem right_chars {s : List UInt8} (h : rightV s = true) : ∀ c ∈ s, c ≠ 10 ∧ c ≠ 32 := by
  unfold rightV at h
  simp only [Bool.and_eq_true, decide_eq_true_eq] at h
  have hp : plainV s = true := by
    cases hq : plainV s with
    | true => rfl
    | false => rw [cleanV, if_neg (by rw [hq]; simp)] at h; cases h.1
  unfold plainV at hp
  simp only [Bool.and_eq_true, List.all_eq_true] at hp
  intro c hc
  have := hp.1 c hc
  refine ⟨fun e => ?_, fun e => ?_⟩ <;> subst e <;> revert this <;> decide

theorem trig_chars {s : List UInt8} (h : trigV s = true) : ∀ c ∈ s, c ≠ 10 ∧ c ≠ 32 := by
  unfold trigV at h
  rw [Bool.or_eq_true] at h
  rcases h with h | h
  · intro c hc; have := name_chars h c hc; exact ⟨this.1, this.2.1⟩
  · exact right_chars h

def OkN (x : Nt) : Prop := trigV x.1 = true ∧ nameV x.2.1 = true

theorem line_no {x : Nt} (h : OkN x) : ∀ c ∈ lineN x, c ≠ 10 := by
  intro c hc
  unfold lineN packN at hc
  simp only [List.mem_append, List.mem_singleton] at hc
  rcases hc with (hc | hc) | hc
  · exact (trig_chars h.1 c hc).1
  · rw [hc]; decide
  · split at hc
    · rw [List.mem_append] at hc
      rcases hc with hc | hc
      · exact (name_chars h.2 c hc).1
      · intro e; subst e; revert hc; decide
    · exact (name_chars h.2 c hc).1

theorem ent_eq {x : Nt} (h : OkN x) (hl : x.1.length ≤ 10000 ∧ x.2.1.length ≤ 10000) :
    (strings_Cut (lineN x) [32]).bind (fun a => (strings_CutSuffix a.2.1 markN).bind fun b => some (a.1, b.1, b.2)) = some x := by
  have e : lineN x = x.1 ++ 32 :: packN x := by unfold lineN; simp
  have hp : (packN x).length ≤ 10008 := by unfold packN; split <;> (try simp [markN]) <;> omega
  rw [e, cut_at _ _ (fun c hc => (trig_chars h.1 c hc).2) (by simp; omega)]
  simp only [Option.bind_some]
  obtain ⟨a, b, c⟩ := x
  unfold packN
  cases c with
  | true => rw [if_pos rfl, cutSuf_yes _ (by have := hl.2; simp only at this; omega)]; rfl
  | false => rw [if_neg (by simp), cutSuf_no _ (fun q hq => (name_chars h.2 q hq).2.2) (by have := hl.2; simp only at this; omega)]; rfl

theorem parseN_loop (l : List Nt) (hok : ∀ x ∈ l, OkN x) (hl : ShN l) : ∀ (r : List Nt) (k : Nat) (out : List Nt), l.drop k = r → out.length ≤ k →
    iter (trigs_Parse_b0 (l.length : Int) (l.map lineN)) ((k : Int), out) = some (out ++ r) := by
  have hl1 := hl.1
  intro r
  induction r with
  | nil =>
    intro k out h ho
    have := drop_nil h
    rw [iter_inr (t := out)]
    · simp
    · unfold trigs_Parse_b0
      simp [show ¬ k < l.length by omega]
  | cons x r ih =>
    intro k out h ho
    obtain ⟨g1, g2, g3⟩ := drop_cons h ([], [], false)
    have hx : x ∈ l := List.mem_of_mem_drop (by rw [h]; simp)
    have hlk : (l.map lineN).getD k [] = lineN x := by
      rw [List.getD_eq_getElem?_getD, List.getElem?_map, List.getElem?_eq_getElem g1]
      rw [List.getD_eq_getElem?_getD, List.getElem?_eq_getElem g1] at g2
      simp only [Option.getD_some, Option.map_some] at g2 ⊢
      rw [g2]
    have he := ent_eq (hok x hx) (hl.2 x hx)
    have hb : trigs_Parse_b0 (l.length : Int) (l.map lineN) ((k : Int), out) = some (.inl (((k + 1 : Nat) : Int), out ++ [x])) := by
      unfold trigs_Parse_b0
      simp only [natlt, g1, decide_true, cond_true, Int.natCast_nonneg, true_and, Int.toNat_natCast, Nat.zero_add, hlk, List.length_map, kplus g1 (by omega)]
      rw [if_pos (by omega)]
      simp only [if_true]
      rw [Option.bind_eq_some_iff] at he
      obtain ⟨a, ha, he⟩ := he
      rw [Option.bind_eq_some_iff] at he
      obtain ⟨b, hb2, he⟩ := he
      simp only [Option.some.injEq] at he
      rw [ha]
      simp only [Option.bind_some]
      have hb3 : strings_CutSuffix a.2.1 [47, 110, 111, 97, 119, 97, 105, 116] = some b := hb2
      rw [hb3]
      simp only [Option.bind_some]
      rw [if_pos (by first | omega | (simp; omega)), ← he]
    rw [iter_inl hb, ih (k + 1) (out ++ [x]) g3 (by simp; omega)]
    simp

theorem checkN_zero {l : List Nt} (h : checkN l = 0) : l.length ≤ 64 ∧ ∀ x ∈ l, OkN x := by
  unfold checkN at h
  split at h
  · cases h
  · rename_i h64
    split at h
    · rename_i ha
      refine ⟨by omega, fun x hx => ?_⟩
      obtain ⟨i, hi⟩ := List.getElem?_of_mem hx
      have := (allFrom_iff (chkN l) l 0).mp ha i x hi
      unfold chkN at this
      simp only [Bool.and_eq_true] at this
      exact ⟨this.1, this.2.1⟩
    · cases h

theorem printN_join (l : List Nt) : joinL (l.map lineN) = printN l := by
  unfold joinL printN
  rw [List.flatMap_map]
  rfl

theorem printN_len : ∀ (l : List Nt), (∀ x ∈ l, x.1.length ≤ 300 ∧ x.2.1.length ≤ 300) → (printN l).length ≤ l.length * 610
  | [], _ => by simp [printN]
  | x :: r, h => by
    obtain ⟨h1, h2⟩ := h x (by simp)
    have := printN_len r fun y hy => h y (by simp [hy])
    have ht : (textN x).length ≤ 610 := by unfold textN lineN packN; split <;> simp [markN] <;> omega
    simp only [printN, List.flatMap_cons, List.length_append, List.length_cons] at this ⊢
    omega

theorem parse_print {l : List Nt} (hc : checkN l = 0) (hsh : ShN l) (hlen : (printN l).length < 1000000) : trigs_Parse (printN l) = some (0, l) := by
  obtain ⟨h64, hok⟩ := checkN_zero hc
  unfold trigs_Parse
  rw [lines_eq _ hlen, ← printN_join, lines_of _ (fun s hs => by
    obtain ⟨x, hx, rfl⟩ := List.mem_map.mp hs
    exact line_no (hok x hx))]
  simp only [Option.bind_some, if_true, decide_true, Bool.not_true, cond_false, List.length_map, Int.natCast_zero, Int.sub_zero]
  have h : iter (trigs_Parse_b0 (l.length : Int) (l.map lineN)) ((0 : Int), []) = _ := parseN_loop l hok hsh l 0 [] rfl (by simp)
  have h' : iter (trigs_Parse_b0 ((l.length : Int) - ((0 : Nat) : Int)) (l.map lineN)) ((0 : Int), []) = some ([] ++ l) := by
    rw [show ((l.length : Int) - ((0 : Nat) : Int)) = (l.length : Int) by omega]; exact h
  first | rw [h] | rw [h']
  simp only [Option.bind_some, List.nil_append, List.drop_zero, checkN_eq l hsh, hc, decide_true, Bool.not_true, cond_false]

theorem awake12 : cellarerlaw12_awake = some true := by kernel_rfl

theorem TrigsPrints_true (l : List Nt) : cellarerlaw12_TrigsPrints l = some true := by
  unfold cellarerlaw12_TrigsPrints
  rw [fewN_eq, awake12]
  cases hf : fewN l with
  | false => rfl
  | true =>
    obtain ⟨hsh, hl, hx⟩ := fewN_sh hf
    simp only [Option.bind_some, Bool.not_true, cond_false, printN_eq l hsh, refPrintN_eq l hsh, checkN_eq l hsh, refCheckN_eq l hsh, decide_true, Sum.elim_inr]
    by_cases hc : checkN l = 0
    · have hlen := printN_len l hx
      have hp := parse_print hc hsh (by omega)
      simp only [prnN, hc, if_true, decide_true, Bool.not_true, cond_false, hp, Option.bind_some, cond_true, List.drop_zero, nsame_eq l l (by omega)]
    · simp [prnN, hc]

end Go.Cellar
