/- What was fired, read back. TrigsFired. No condition. -/
import Derived.Test.YtjdjmbogopadaaaGreatDoorPl12l
set_option linter.unusedSimpArgs false
set_option linter.unusedVariables false
set_option maxRecDepth 8000
namespace Go.Cellar
open Go

theorem cloneS_eq (l : List (List UInt8)) (hl : l.length ≤ 10000) : slices_Clone___string_string_ l = some l := by
  unfold slices_Clone___string_string_
  rw [if_pos (by omega)]
  cases l with
  | nil => unfold mayb both; simp
  | cons x l => rfl

theorem sameS_refl (a : List (List UInt8)) (ha : a.length < 1000002) : cellarerref02_Same a a = some true := by
  unfold cellarerref02_Same
  have h := all_loop (cellarerref02_Same_b0 a a) (fun _ _ => true) a (fun k hk => by
    unfold cellarerref02_Same_b0
    simp [show ¬ k < a.length by omega]) (fun k x r hd => by
    obtain ⟨g1, g2, g3⟩ := drop_cons hd []
    unfold cellarerref02_Same_b0
    simp only [natlt, g1, decide_true, cond_true, Int.natCast_nonneg, true_and, if_true, Int.toNat_natCast, g2, kplus g1 (by omega), Bool.not_true, cond_false]) a 0 rfl
  have h' : iter (cellarerref02_Same_b0 a a) (0 : Int) = _ := h
  rw [h', allFrom_const]
  simp

theorem sameF_refl (a : List Fd) (ha : a.length < 1000002) (hs : ∀ x ∈ a, x.2.length < 1000002) : cellarerref12_SameFired a a = some true := by
  unfold cellarerref12_SameFired
  have h := all_loop (cellarerref12_SameFired_b0 a a) (fun _ _ => true) a (fun k hk => by
    unfold cellarerref12_SameFired_b0
    simp [show ¬ k < a.length by omega]) (fun k x r hd => by
    obtain ⟨g1, g2, g3⟩ := drop_cons hd ([], [])
    have hx : x ∈ a := List.mem_of_mem_drop (by rw [hd]; simp)
    unfold cellarerref12_SameFired_b0
    simp only [natlt, g1, decide_true, cond_true, Int.natCast_nonneg, true_and, if_true, Int.toNat_natCast, g2, kplus g1 (by omega), Bool.not_true, cond_false, sameS_refl x.2 (hs x hx), Option.bind_some]) a 0 rfl
  have h' : iter (cellarerref12_SameFired_b0 a a) (0 : Int) = _ := h
  rw [h', allFrom_const]
  simp

/-! ### one line's words -/

theorem dash_no : nameV [45] = false := by decide

theorem words_no {x : Fd} (h : OkF x) : ∀ w ∈ x.1 :: wordsL x.2, ∀ c ∈ w, c ≠ 10 ∧ c ≠ 32 := by
  intro w hw
  rcases List.mem_cons.mp hw with rfl | hw
  · exact trig_chars h.1
  · unfold wordsL at hw
    split at hw
    · simp only [List.mem_singleton] at hw
      subst hw
      intro c hc
      simp only [List.mem_singleton] at hc
      subst hc
      decide
    · intro c hc
      have := name_chars (h.2.2 w hw) c hc
      exact ⟨this.1, this.2.1⟩

theorem lineF_words {x : Fd} (h : OkF x) : pieces_S (lineF x) [] = x.1 :: wordsL x.2 := by
  have h1 := pieces_of_S (x.1 :: wordsL x.2) fun w hw c hc => (words_no h w hw c hc).2
  rw [← flatS_join] at h1
  have h2 : x.1 ++ flatS (wordsL x.2) ++ [32] = lineF x ++ [32] := rfl
  rw [h2, pieces_snoc_S] at h1
  exact List.append_cancel_right h1

theorem lineF_no {x : Fd} (h : OkF x) : ∀ c ∈ lineF x, c ≠ 10 := by
  intro c hc
  unfold lineF flatS at hc
  rcases List.mem_append.mp hc with hc | hc
  · exact (words_no h x.1 (by simp) c hc).1
  · obtain ⟨w, hw, hc⟩ := List.mem_flatMap.mp hc
    rcases List.mem_cons.mp hc with rfl | hc
    · decide
    · exact (words_no h w (by simp [hw]) c hc).1

theorem lineF_len {x : Fd} (h : OkF x) (hl : x.1.length ≤ 10000) : (lineF x).length ≤ 14000 := by
  have := words_len h
  unfold lineF
  rw [List.length_append]
  omega

/-- What one line comes to. -/
def entryF (w : List (List UInt8)) : Fd := if w.getD 1 [] = [45] ∧ w.length = 2 then (w.getD 0 [], []) else (w.getD 0 [], w.drop 1)

theorem entryF_ok {x : Fd} (h : OkF x) : entryF (x.1 :: wordsL x.2) = x := by
  unfold entryF wordsL
  obtain ⟨a, b⟩ := x
  by_cases hb : b = []
  · subst hb; simp
  · rw [if_neg hb, if_neg (by
      rintro ⟨h1, h2⟩
      cases b with
      | nil => exact hb rfl
      | cons p r =>
        have hp := h.2.2 p (by simp)
        have : p = [45] := by simpa using h1
        rw [this, dash_no] at hp
        cases hp)]
    simp

theorem parseF_step (w : List (List UInt8)) (hw : 2 ≤ w.length) (hwl : w.length ≤ 10000) (t : Int) (lines : List (List UInt8)) (k : Nat) (hk : k < lines.length) (ht : t = (lines.length : Int)) (hlen : lines.length ≤ 10000) (hline : (lines.getD k []).length < 1000000)
    (hp : pieces_S (lines.getD k []) [] = w) (out : List Fd) (ho : out.length ≤ 10000) :
    trigs_ParseFired_b0 t lines ((k : Int), out) = some (.inl (((k + 1 : Nat) : Int), out ++ [entryF w])) := by
  unfold trigs_ParseFired_b0
  simp only [Prod.fst, Prod.snd]
  have hs : strings_Split (lines.getD k []) [32] = some w := by
    unfold strings_Split
    rw [genSplit_eq_S _ hline, hp]
    rfl
  rw [ht, decide_eq_true (by omega), if_pos (by omega), if_pos (by rw [Int.toNat_natCast]; omega)]
  simp only [cond_true, Int.toNat_natCast, Nat.zero_add, hs, Option.bind_some, kplus hk (by omega)]
  rw [decide_eq_false (show ¬ (w.length : Int) < 2 by omega)]
  simp only [cond_false]
  have t1 : Int.toNat (1 : Int) = 1 := rfl
  have t0 : Int.toNat (0 : Int) = 0 := rfl
  have full : ∀ v : List (List UInt8), 1 ≤ v.length → v.length ≤ 10000 → (if (0 : Int) ≤ (0 : Int) ∧ (0 : Int) < ((v.length : Nat) : Int) then
      if (0 : Int) ≤ (1 : Int) ∧ (1 : Int) ≤ ((v.length : Nat) : Int) ∧ ((v.length : Nat) : Int) ≤ ((v.length : Nat) : Int) then
        (slices_Clone___string_string_ (List.drop (Int.toNat (1 : Int)) (List.take (Int.toNat ((v.length : Nat) : Int)) v))).bind fun a =>
          if (out.length + List.length ((fun (x : List (Ty.T (Ty.prod Ty.str (Ty.list Ty.str)))) => x) [(List.getD v (Int.toNat (0 : Int)) [], a)])) * (40 : Nat) ≤ (17592186044416 : Nat) then
            some (Sum.inl (((k + 1 : Nat) : Int), out ++ [(List.getD v (Int.toNat (0 : Int)) [], a)]))
          else none
      else none
    else none : Option ((Int × List Fd) ⊕ (Unit ⊕ List Fd))) = some (.inl (((k + 1 : Nat) : Int), out ++ [(v.getD 0 [], v.drop 1)])) := by
    intro v h1 h2
    rw [if_pos (by omega), if_pos (by omega), Int.toNat_natCast, List.take_length, t1, t0, cloneS_eq _ (by rw [List.length_drop]; omega)]
    simp only [Option.bind_some]
    rw [if_pos (by simp; omega)]
  unfold entryF
  by_cases h2 : w.length = 2
  · rw [decide_eq_true (show (w.length : Int) = 2 by omega), if_pos (by omega), t1]
    simp only [cond_true]
    by_cases hd : w.getD 1 [] = [45]
    · rw [decide_eq_true hd, if_pos (by omega), if_pos (show w.getD 1 [] = [45] ∧ w.length = 2 from ⟨hd, h2⟩)]
      simp only [cond_true, Option.bind_some, Sum.elim_inr]
      have hv : List.drop (Int.toNat (0 : Int)) (List.take 1 w) = [w.getD 0 []] := by
        cases w with
        | nil => simp at hw
        | cons p r => rfl
      rw [hv]
      exact full [w.getD 0 []] (by simp) (by simp)
    · rw [decide_eq_false hd, if_neg (show ¬ (w.getD 1 [] = [45] ∧ w.length = 2) by rintro ⟨e, _⟩; exact hd e)]
      simp only [cond_false, Option.bind_some, Sum.elim_inr]
      exact full w (by omega) hwl
  · rw [decide_eq_false (show ¬ (w.length : Int) = 2 by omega), if_neg (show ¬ (w.getD 1 [] = [45] ∧ w.length = 2) by rintro ⟨_, e⟩; exact h2 e)]
    simp only [cond_false, Option.bind_some, Sum.elim_inr]
    exact full w (by omega) hwl

theorem parseF_loop (l : List Fd) (hok : ∀ x ∈ l, OkF x) (hl : SmF l) : ∀ (r : List Fd) (k : Nat) (out : List Fd), l.drop k = r → out.length ≤ k →
    iter (trigs_ParseFired_b0 (l.length : Int) (l.map lineF)) ((k : Int), out) = some (.inr (out ++ r)) := by
  have hl1 := hl.1
  intro r
  induction r with
  | nil =>
    intro k out h ho
    have := drop_nil h
    rw [iter_inr (t := .inr out)]
    · simp
    · unfold trigs_ParseFired_b0
      simp [show ¬ k < l.length by omega]
  | cons x r ih =>
    intro k out h ho
    obtain ⟨g1, g2, g3⟩ := drop_cons h ([], [])
    have hx : x ∈ l := List.mem_of_mem_drop (by rw [h]; simp)
    have hlk : (l.map lineF).getD k [] = lineF x := by
      rw [List.getD_eq_getElem?_getD, List.getElem?_map, List.getElem?_eq_getElem g1]
      rw [List.getD_eq_getElem?_getD, List.getElem?_eq_getElem g1] at g2
      simp only [Option.getD_some, Option.map_some] at g2 ⊢
      rw [g2]
    have ho1 := hok x hx
    have hll := lineF_len ho1 (hl.2 x hx).1
    have hwn : 1 ≤ (wordsL x.2).length ∧ (wordsL x.2).length ≤ 64 := by
      have := ho1.2.1
      unfold wordsL
      split
      · simp
      · rename_i hne
        exact ⟨List.length_pos_iff.mpr hne, this⟩
    have hb := parseF_step (x.1 :: wordsL x.2) (by simp; omega) (by simp; omega) (l.length : Int) (l.map lineF) k (by simpa using g1) (by simp) (by simpa using hl1) (by rw [hlk]; omega) (by rw [hlk]; exact lineF_words ho1) out (by omega)
    rw [entryF_ok ho1] at hb
    rw [iter_inl hb, ih (k + 1) (out ++ [x]) g3 (by simp; omega)]
    simp

theorem printF_join (l : List Fd) : joinL (l.map lineF) = printF l := by
  unfold joinL printF textF
  rw [List.flatMap_map]

theorem printF_len : ∀ (l : List Fd), (∀ x ∈ l, OkF x ∧ x.1.length ≤ 300) → (printF l).length ≤ l.length * 4400
  | [], _ => by simp [printF]
  | x :: r, h => by
    have h1 := printF_len r fun y hy => h y (List.mem_cons_of_mem _ hy)
    obtain ⟨h2, h3⟩ := h x List.mem_cons_self
    have h4 := words_len h2
    simp only [printF, List.flatMap_cons, List.length_append, List.length_cons, textF, lineF, List.length_nil] at h1 ⊢
    omega

theorem parse_printF {l : List Fd} (hc : checkF l = 0) (hsh : SmF l) (hlen : (printF l).length < 1000000) : trigs_ParseFired (printF l) = some (0, l) := by
  obtain ⟨h64, hok⟩ := checkF_zero hc
  unfold trigs_ParseFired
  rw [lines_eq _ hlen, ← printF_join, lines_of _ (fun s hs => by
    obtain ⟨x, hx, rfl⟩ := List.mem_map.mp hs
    exact lineF_no (hok x hx))]
  simp only [Option.bind_some, if_true, decide_true, Bool.not_true, cond_false, List.length_map, Int.natCast_zero, Int.sub_zero]
  have h : iter (trigs_ParseFired_b0 (l.length : Int) (l.map lineF)) ((0 : Int), []) = _ := parseF_loop l hok hsh l 0 [] rfl (by simp)
  have h' : iter (trigs_ParseFired_b0 ((l.length : Int) - ((0 : Nat) : Int)) (l.map lineF)) ((0 : Int), []) = some (.inr ([] ++ l)) := by
    rw [show ((l.length : Int) - ((0 : Nat) : Int)) = (l.length : Int) by omega]; exact h
  first | rw [h] | rw [h']
  simp only [Option.bind_some, Sum.elim_inr, List.nil_append, List.drop_zero, checkF_eq l hsh, hc, decide_true, Bool.not_true, cond_false]

theorem TrigsFired_true (l : List Fd) : cellarerlaw12_TrigsFired l = some true := by
  unfold cellarerlaw12_TrigsFired
  obtain ⟨b, e1, f1⟩ := fewF l
  rw [e1, awake12]
  cases b with
  | false => rfl
  | true =>
    obtain ⟨hl, hf⟩ := f1 rfl
    have hsh : SmF l := ⟨by omega, fun x hx => by
      obtain ⟨h1, h2, h3⟩ := hf x hx
      exact ⟨by omega, by omega, fun p hp => by have := h3 p hp; omega⟩⟩
    simp only [Option.bind_some, Bool.not_true, cond_false, printF_eq l hsh, refPrintF_eq l hsh, checkF_eq l hsh, refCheckF_eq l hsh, decide_true, Sum.elim_inr]
    by_cases hc : checkF l = 0
    · have hlen := printF_len l fun x hx => ⟨(checkF_zero hc).2 x hx, (hf x hx).1⟩
      have hp := parse_printF hc hsh (by omega)
      simp only [prnF, hc, if_true, decide_true, Bool.not_true, cond_false, hp, Option.bind_some, cond_true, List.drop_zero, sameF_refl l (by omega) (fun x hx => by have := (hf x hx).2.1; omega)]
    · simp [prnF, hc]

end Go.Cellar
