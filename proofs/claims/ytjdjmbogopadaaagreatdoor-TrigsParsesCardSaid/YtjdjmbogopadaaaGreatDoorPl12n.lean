/- The reference's words and lines. No condition. -/
import Derived.Test.YtjdjmbogopadaaaGreatDoorPl12m

set_option linter.unusedSimpArgs false
set_option linter.unusedVariables false
set_option maxRecDepth 8000
namespace Go.Cellar
open Go

theorem refSplit_loop_V (s : List UInt8) (hs : s.length < 1000000) : ∀ (r : List UInt8) (k : Nat) (acc : List UInt8) (out : List (List UInt8)), s.drop k = r → k + r.length = s.length → acc.length ≤ k → out.length ≤ k →
    ∃ acc' out', iter (cellarerref06_Split_b0 s 47) (acc, (k : Int), out) = some (acc', out') ∧ out' ++ [acc'] = out ++ pieces r acc ∧ acc'.length ≤ s.length ∧ out'.length ≤ s.length := by
  intro r
  induction r with
  | nil =>
    intro k acc out h hk ha ho
    simp only [List.length_nil] at hk
    refine ⟨acc, out, ?_, ?_, by omega, by omega⟩
    · rw [iter_inr (t := (acc, out))]
      unfold cellarerref06_Split_b0
      simp [show ¬ k < s.length by omega]
    · simp only [pieces]
  | cons c r ih =>
    intro k acc out h hk ha ho
    simp only [List.length_cons] at hk
    obtain ⟨g1, g2, g3⟩ := drop_cons h 0
    have hb : cellarerref06_Split_b0 s 47 (acc, (k : Int), out) = some (.inl (if c = 47 then ([], ((k + 1 : Nat) : Int), out ++ [acc]) else (acc ++ [c], ((k + 1 : Nat) : Int), out))) := by
      unfold cellarerref06_Split_b0
      simp only [natlt, g1, decide_true, cond_true, Int.natCast_nonneg, true_and, if_true, Int.toNat_natCast, g2, kplus g1 (by omega), u8_47, slice1 h]
      by_cases hc : c = 47
      · simp only [hc, decide_true, cond_true, if_true, List.drop_zero, List.length_cons, List.length_nil]
        rw [if_pos (by omega)]
      · simp only [hc, decide_false, cond_false, if_false, List.length_cons, List.length_nil]
        rw [if_pos (by omega), if_pos (by omega)]
    rw [iter_inl hb]
    by_cases hc : c = 47
    · rw [if_pos hc]
      obtain ⟨acc', out', h1, h2, h3, h4⟩ := ih (k + 1) [] (out ++ [acc]) g3 (by omega) (by simp) (by simp; omega)
      refine ⟨acc', out', h1, ?_, h3, h4⟩
      rw [h2]
      simp only [pieces, hc, if_true]
      simp
    · rw [if_neg hc]
      obtain ⟨acc', out', h1, h2, h3, h4⟩ := ih (k + 1) (acc ++ [c]) out g3 (by omega) (by simp; omega) (by omega)
      refine ⟨acc', out', h1, ?_, h3, h4⟩
      rw [h2]
      simp only [pieces, hc, if_false]

theorem refSplit_eq_V (s : List UInt8) (hs : s.length < 1000000) : cellarerref06_Split s 47 = some (pieces s []) := by
  unfold cellarerref06_Split
  obtain ⟨acc, out, h1, h2, h3, h4⟩ := refSplit_loop_V s hs s 0 [] [] rfl (by simp) (by simp) (by simp)
  have h1' : iter (cellarerref06_Split_b0 s 47) (([] : List UInt8), (0 : Int), ([] : List (List UInt8))) = some (acc, out) := h1
  rw [h1']
  simp only [List.nil_append] at h2
  simp only [Option.bind_some, List.drop_zero, List.length_cons, List.length_nil]
  rw [if_pos (by omega), h2]

theorem refSplit_loop_L (s : List UInt8) (hs : s.length < 1000000) : ∀ (r : List UInt8) (k : Nat) (acc : List UInt8) (out : List (List UInt8)), s.drop k = r → k + r.length = s.length → acc.length ≤ k → out.length ≤ k →
    ∃ acc' out', iter (cellarerref06_Split_b0 s 10) (acc, (k : Int), out) = some (acc', out') ∧ out' ++ [acc'] = out ++ pieces_L r acc ∧ acc'.length ≤ s.length ∧ out'.length ≤ s.length := by
  intro r
  induction r with
  | nil =>
    intro k acc out h hk ha ho
    simp only [List.length_nil] at hk
    refine ⟨acc, out, ?_, ?_, by omega, by omega⟩
    · rw [iter_inr (t := (acc, out))]
      unfold cellarerref06_Split_b0
      simp [show ¬ k < s.length by omega]
    · simp only [pieces_L]
  | cons c r ih =>
    intro k acc out h hk ha ho
    simp only [List.length_cons] at hk
    obtain ⟨g1, g2, g3⟩ := drop_cons h 0
    have hb : cellarerref06_Split_b0 s 10 (acc, (k : Int), out) = some (.inl (if c = 10 then ([], ((k + 1 : Nat) : Int), out ++ [acc]) else (acc ++ [c], ((k + 1 : Nat) : Int), out))) := by
      unfold cellarerref06_Split_b0
      simp only [natlt, g1, decide_true, cond_true, Int.natCast_nonneg, true_and, if_true, Int.toNat_natCast, g2, kplus g1 (by omega), u8_L, slice1 h]
      by_cases hc : c = 10
      · simp only [hc, decide_true, cond_true, if_true, List.drop_zero, List.length_cons, List.length_nil]
        rw [if_pos (by omega)]
      · simp only [hc, decide_false, cond_false, if_false, List.length_cons, List.length_nil]
        rw [if_pos (by omega), if_pos (by omega)]
    rw [iter_inl hb]
    by_cases hc : c = 10
    · rw [if_pos hc]
      obtain ⟨acc', out', h1, h2, h3, h4⟩ := ih (k + 1) [] (out ++ [acc]) g3 (by omega) (by simp) (by simp; omega)
      refine ⟨acc', out', h1, ?_, h3, h4⟩
      rw [h2]
      simp only [pieces_L, hc, if_true]
      simp
    · rw [if_neg hc]
      obtain ⟨acc', out', h1, h2, h3, h4⟩ := ih (k + 1) (acc ++ [c]) out g3 (by omega) (by simp; omega) (by omega)
      refine ⟨acc', out', h1, ?_, h3, h4⟩
      rw [h2]
      simp only [pieces_L, hc, if_false]

theorem refSplit_eq_L (s : List UInt8) (hs : s.length < 1000000) : cellarerref06_Split s 10 = some (pieces_L s []) := by
  unfold cellarerref06_Split
  obtain ⟨acc, out, h1, h2, h3, h4⟩ := refSplit_loop_L s hs s 0 [] [] rfl (by simp) (by simp) (by simp)
  have h1' : iter (cellarerref06_Split_b0 s 10) (([] : List UInt8), (0 : Int), ([] : List (List UInt8))) = some (acc, out) := h1
  rw [h1']
  simp only [List.nil_append] at h2
  simp only [Option.bind_some, List.drop_zero, List.length_cons, List.length_nil]
  rw [if_pos (by omega), h2]

theorem refLines_eq (s : List UInt8) (hs : s.length < 1000000) : cellarerref06_Lines s = some ((linesV s).1, (pieces_L s []).dropLast) ∧ ((linesV s).1 = true → (linesV s).2 = (pieces_L s []).dropLast) := by
  have hlen := pieces_L_len s []
  have hne := pieces_ne s []
  have hpos : 0 < (pieces_L s []).length := List.length_pos_iff.mpr hne
  constructor
  · unfold cellarerref06_Lines
    rw [refSplit_eq_L s hs]
    have e : IntKind.wrap IntKind.i64 (((pieces_L s []).length : Int) - ((0 : Nat) : Int) - 1) = (((pieces_L s []).length - 1 : Nat) : Int) := by rw [w64 (by omega) (by omega)]; omega
    simp only [Option.bind_some, e, Int.toNat_natCast, Nat.zero_add]
    rw [if_pos (by omega), if_pos (by omega), if_pos (by omega), dropLast_take]
    have e2 : (pieces_L s []).getD ((pieces_L s []).length - 1) [] = (pieces_L s []).getLast hne := by
      rw [List.getD_eq_getElem?_getD, List.getElem?_eq_getElem (by omega), List.getLast_eq_getElem]; rfl
    rw [e2]
    congr 2
    unfold linesV
    by_cases h : s = []
    · subst h; rfl
    · by_cases he : endsSl_L s = true
      · have hd := dropLast_ends he
        have hq : ∀ (l : List (List UInt8)) (hn : l ≠ []), l = pieces_L s.dropLast [] ++ [[]] → l.getLast hn = [] := by
          intro l hn hl; subst hl; simp
        rw [hq _ hne (by conv => lhs; rw [hd, pieces_snoc])]
        simp [h, he]
      · have hlast := List.dropLast_concat_getLast h
        have hc : s.getLast h ≠ 10 := by
          intro e
          apply he
          unfold endsSl_L
          rw [List.getLast?_eq_some_getLast h, e]
          simp
        obtain ⟨q, x, hqx⟩ := pieces_last s.dropLast [] _ hc
        rw [hlast] at hqx
        have hq : ∀ (l : List (List UInt8)) (hn : l ≠ []), l = q ++ [x ++ [s.getLast h]] → l.getLast hn ≠ [] := by
          intro l hn hl; subst hl; simp
        have := hq _ hne hqx
        simp [h, he, this]
  · intro h1
    unfold linesV at h1 ⊢
    by_cases h : s = []
    · subst h; rfl
    · by_cases he : endsSl_L s = true
      · have hd := dropLast_ends he
        simp only [h, he, if_false, if_true]
        conv => rhs; rw [hd, pieces_snoc]
        simp
      · simp [h, he] at h1

theorem pieces_one_V : ∀ (x q acc : List UInt8), (∀ c ∈ x, c ≠ 47) → pieces (x ++ 47 :: q) acc = (acc ++ x) :: pieces q [] := by
  intro x
  induction x with
  | nil => intro q acc _; simp [pieces]
  | cons c r ih =>
    intro q acc h
    have hc := h c (by simp)
    simp only [List.cons_append, pieces, hc, if_false]
    rw [ih q _ (fun y hy => h y (by simp [hy]))]
    simp

end Go.Cellar

/- The reference reads back what was printed. No condition. -/
set_option linter.unusedSimpArgs false
set_option linter.unusedVariables false
set_option maxRecDepth 8000
namespace Go.Cellar
open Go

theorem count0 {c : UInt8} {s : List UInt8} (h : ∀ x ∈ s, x ≠ c) : s.count c = 0 := List.count_eq_zero.mpr fun hm => h c hm rfl

def noaw : List UInt8 := [110, 111, 97, 119, 97, 105, 116]

theorem markN_no32 : ∀ c ∈ markN, c ≠ 32 := by unfold markN; decide

theorem packN_no32 {x : Nt} (h : OkN x) : ∀ c ∈ packN x, c ≠ 32 := by
  intro c hc
  unfold packN at hc
  split at hc
  · rcases List.mem_append.mp hc with hc | hc
    · exact (name_chars h.2 c hc).2.1
    · exact markN_no32 c hc
  · exact (name_chars h.2 c hc).2.1

theorem lineN_words {x : Nt} (h : OkN x) : pieces_S (lineN x) [] = [x.1, packN x] := by
  have e : lineN x = x.1 ++ 32 :: packN x := by unfold lineN; simp
  rw [e, pieces_one_S _ _ _ fun c hc => (trig_chars h.1 c hc).2, pieces_none_S _ _ (count0 (packN_no32 h))]
  simp

theorem packN_pieces {x : Nt} (h : OkN x) : pieces (packN x) [] = if x.2.2 = true then [x.2.1, noaw] else [x.2.1] := by
  unfold packN
  split
  · have e : x.2.1 ++ markN = x.2.1 ++ 47 :: noaw := rfl
    rw [e, pieces_one_V _ _ _ fun c hc => (name_chars h.2 c hc).2.2, pieces_none _ _ (by decide)]
    simp
  · rw [pieces_none _ _ (count0 fun c hc => (name_chars h.2 c hc).2.2)]
    simp

theorem refStepN {x : Nt} (h : OkN x) (hl : x.1.length ≤ 10000 ∧ x.2.1.length ≤ 10000) (lines : List (List UInt8)) (k : Nat) (hk : k < lines.length) (hlen : lines.length ≤ 10000) (hline : lines.getD k [] = lineN x) (out : List Nt) (ho : out.length ≤ 10000) :
    cellarerref12_Parse_b0 lines ((k : Int), out) = some (.inl (((k + 1 : Nat) : Int), out ++ [x])) := by
  have hp : (packN x).length ≤ 10008 := by unfold packN; split <;> (try simp [markN]) <;> omega
  have hll : (lineN x).length ≤ 20020 := by have := textN_len hl; unfold textN at this; rw [List.length_append] at this; omega
  unfold cellarerref12_Parse_b0
  simp only [Prod.fst, Prod.snd]
  rw [decide_eq_true (by omega), if_pos (by omega), if_pos (by rw [Int.toNat_natCast]; omega)]
  simp only [cond_true, Int.toNat_natCast, Nat.zero_add, hline, kplus hk (by omega)]
  rw [refSplit_eq_S _ (by omega), lineN_words h]
  simp only [Option.bind_some]
  have g1 : List.getD [x.1, packN x] 1 [] = packN x := rfl
  have g0 : List.getD [x.1, packN x] 0 [] = x.1 := rfl
  rw [g1, g0, refSplit_eq_V _ (by omega), packN_pieces h]
  obtain ⟨a, b, c⟩ := x
  cases c with
  | true =>
    simp only [if_true, Option.bind_some, List.length_cons, List.length_nil]
    have q1 : List.getD [b, noaw] 1 [] = noaw := rfl
    have q0 : List.getD [b, noaw] 0 [] = b := rfl
    rw [q1, q0]
    have q2 : decide (noaw = [110, 111, 97, 119, 97, 105, 116]) = true := decide_eq_true rfl
    rw [q2]
    simp
    omega
  | false =>
    have hb : packN (a, b, false) = b := rfl
    rw [hb]
    simp
    omega

theorem refParseN_loop (l : List Nt) (hok : ∀ x ∈ l, OkN x) (hl : ShN l) : ∀ (r : List Nt) (k : Nat) (out : List Nt), l.drop k = r → out.length ≤ k →
    iter (cellarerref12_Parse_b0 (l.map lineN)) ((k : Int), out) = some (.inr (out ++ r)) := by
  have hl1 := hl.1
  intro r
  induction r with
  | nil =>
    intro k out h ho
    have := drop_nil h
    rw [iter_inr (t := .inr out)]
    · simp
    · unfold cellarerref12_Parse_b0
      simp only [Prod.fst, Prod.snd, List.length_map]
      rw [decide_eq_false (by omega)]
      rfl
  | cons x r ih =>
    intro k out h ho
    obtain ⟨g1, g2, g3⟩ := drop_cons h ([], [], false)
    have hx : x ∈ l := List.mem_of_mem_drop (by rw [h]; simp)
    have hlk : (l.map lineN).getD k [] = lineN x := by
      rw [List.getD_eq_getElem?_getD, List.getElem?_map, List.getElem?_eq_getElem g1]
      rw [List.getD_eq_getElem?_getD, List.getElem?_eq_getElem g1] at g2
      simp only [Option.getD_some, Option.map_some] at g2 ⊢
      rw [g2]
    rw [iter_inl (refStepN (hok x hx) (hl.2 x hx) (l.map lineN) k (by simpa using g1) (by simpa using hl1) hlk out (by omega)), ih (k + 1) (out ++ [x]) g3 (by simp; omega)]
    simp

theorem refLines_join {L : List (List UInt8)} (h : ∀ x ∈ L, ∀ c ∈ x, c ≠ 10) (hlen : (joinL L).length < 1000000) : cellarerref06_Lines (joinL L) = some (true, L) := by
  obtain ⟨h1, h2⟩ := refLines_eq (joinL L) hlen
  rw [lines_of L h] at h1 h2
  rw [h1, ← h2 rfl]

theorem refParse_print {l : List Nt} (hc : checkN l = 0) (hsh : ShN l) (hlen : (printN l).length < 1000000) : cellarerref12_Parse (printN l) = some (true, l) := by
  obtain ⟨h64, hok⟩ := checkN_zero hc
  unfold cellarerref12_Parse
  have e : cellarerref06_Lines (printN l) = some (true, l.map lineN) := by
    rw [← printN_join] at hlen ⊢
    exact refLines_join (fun s hs => by
      obtain ⟨x, hx, rfl⟩ := List.mem_map.mp hs
      exact line_no (hok x hx)) hlen
  rw [e]
  have h : iter (cellarerref12_Parse_b0 (l.map lineN)) ((0 : Int), []) = _ := refParseN_loop l hok hsh l 0 [] rfl (by simp)
  simp only [Option.bind_some]
  rw [h]
  simp only [Option.bind_some, Sum.elim_inr, List.nil_append, List.drop_zero, refPrintN_eq l hsh, prnN, hc, if_true, decide_true, Bool.not_true, cond_false]

/-! ### what was fired -/

theorem wordsF_loop (w : List (List UInt8)) (hw : w.length ≤ 10000) : ∀ (r : List (List UInt8)) (k : Nat) (out : List (List UInt8)), w.drop k = r → out.length ≤ k →
    iter (cellarerref12_ParseFired_b0 w) ((k : Int), out) = some (out ++ r.filter fun p => !decide (p = [45])) := by
  intro r
  induction r with
  | nil =>
    intro k out h ho
    have := drop_nil h
    rw [iter_inr (t := out)]
    · simp
    · unfold cellarerref12_ParseFired_b0
      simp only [Prod.fst, Prod.snd]
      rw [decide_eq_false (by omega)]
      rfl
  | cons p r ih =>
    intro k out h ho
    obtain ⟨g1, g2, g3⟩ := drop_cons h []
    by_cases hp : p = [45]
    · have hb : cellarerref12_ParseFired_b0 w ((k : Int), out) = some (.inl (((k + 1 : Nat) : Int), out)) := by
        unfold cellarerref12_ParseFired_b0
        simp only [Prod.fst, Prod.snd]
        rw [decide_eq_true (by omega), if_pos (by omega), if_pos (by rw [Int.toNat_natCast]; omega)]
        simp only [cond_true, Int.toNat_natCast, Nat.zero_add, g2, kplus g1 (by omega)]
        rw [decide_eq_true hp]
        rfl
      rw [iter_inl hb, ih (k + 1) out g3 (by omega)]
      simp [hp]
    · have hb : cellarerref12_ParseFired_b0 w ((k : Int), out) = some (.inl (((k + 1 : Nat) : Int), out ++ [p])) := by
        unfold cellarerref12_ParseFired_b0
        simp only [Prod.fst, Prod.snd]
        rw [decide_eq_true (by omega), if_pos (by omega), if_pos (by rw [Int.toNat_natCast]; omega)]
        simp only [cond_true, Int.toNat_natCast, Nat.zero_add, g2, kplus g1 (by omega)]
        rw [decide_eq_false hp]
        simp only [Bool.not_false, cond_true]
        rw [if_pos (by omega), if_pos (by omega), if_pos (by simp; omega)]
      rw [iter_inl hb, ih (k + 1) (out ++ [p]) g3 (by simp; omega)]
      simp [hp]

/-- What one line comes to, by the reference. -/
def rentF (w : List (List UInt8)) : Fd := (w.getD 0 [], (w.drop 1).filter fun p => !decide (p = [45]))

theorem refStepF (lines : List (List UInt8)) (k : Nat) (hk : k < lines.length) (hlen : lines.length ≤ 10000) (hline : (lines.getD k []).length ≤ 9000) (out : List Fd) (ho : out.length ≤ 10000) :
    cellarerref12_ParseFired_b1 lines ((k : Int), out) = some (.inl (((k + 1 : Nat) : Int), out ++ [rentF (pieces_S (lines.getD k []) [])])) := by
  have hw := pieces_S_len (lines.getD k []) []
  have hne := List.length_pos_iff.mpr (pieces_ne_S (lines.getD k []) [])
  unfold cellarerref12_ParseFired_b1
  simp only [Prod.fst, Prod.snd]
  rw [decide_eq_true (by omega), if_pos (by omega), if_pos (by rw [Int.toNat_natCast]; omega)]
  simp only [cond_true, Int.toNat_natCast, Nat.zero_add, kplus hk (by omega)]
  rw [refSplit_eq_S _ (by omega)]
  simp only [Option.bind_some]
  have h : iter (cellarerref12_ParseFired_b0 (pieces_S (lines.getD k []) [])) ((1 : Int), []) = _ := wordsF_loop (pieces_S (lines.getD k []) []) (by omega) _ 1 [] rfl (by simp)
  rw [if_pos (by omega), if_pos (by omega), h]
  simp only [Option.bind_some, List.drop_zero, List.nil_append]
  rw [if_pos (by simp; omega)]
  rfl

theorem refFired_loop (lines : List (List UInt8)) (hlen : lines.length ≤ 10000) (hline : ∀ s ∈ lines, s.length ≤ 9000) : ∀ (r : List (List UInt8)) (k : Nat) (out : List Fd), lines.drop k = r → out.length ≤ k →
    iter (cellarerref12_ParseFired_b1 lines) ((k : Int), out) = some (out ++ r.map fun s => rentF (pieces_S s [])) := by
  intro r
  induction r with
  | nil =>
    intro k out h ho
    have := drop_nil h
    rw [iter_inr (t := out)]
    · simp
    · unfold cellarerref12_ParseFired_b1
      simp only [Prod.fst, Prod.snd]
      rw [decide_eq_false (by omega)]
      rfl
  | cons s r ih =>
    intro k out h ho
    obtain ⟨g1, g2, g3⟩ := drop_cons h []
    have hs : s ∈ lines := List.mem_of_mem_drop (by rw [h]; simp)
    have hb := refStepF lines k g1 hlen (by rw [g2]; exact hline s hs) out (by omega)
    rw [g2] at hb
    rw [iter_inl hb, ih (k + 1) _ g3 (by simp; omega)]
    simp

theorem rentF_ok {x : Fd} (h : OkF x) : rentF (x.1 :: wordsL x.2) = x := by
  unfold rentF wordsL
  obtain ⟨a, b⟩ := x
  by_cases hb : b = []
  · subst hb; simp
  · rw [if_neg hb]
    have : b.filter (fun p => !decide (p = [45])) = b := List.filter_eq_self.mpr fun p hp => by
      have hn := h.2.2 p hp
      by_cases e : p = [45]
      · rw [e, dash_no] at hn; cases hn
      · simp [e]
    simp [this]

end Go.Cellar
