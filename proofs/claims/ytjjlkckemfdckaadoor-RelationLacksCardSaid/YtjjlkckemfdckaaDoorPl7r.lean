/- Relations, by plain lists: which may be, as a text, and read. No condition. -/
import Derived.Test.YtjjlkckemfdckaaDoorPl7s
set_option linter.unusedSimpArgs false
set_option linter.unusedVariables false
set_option maxRecDepth 4000
namespace Go.Cellar
open Go

abbrev Rl := List UInt8 × List UInt8 × List UInt8

theorem awake7 : cellarerlaw07_awake = some true := by kernel_rfl

def ops7 : List (List UInt8) := [[60, 60], [60, 61], [61], [62, 61], [62, 62]]
def rightR (x : Rl) : Bool := nameV x.1 && (if x.2.1 = [] then decide (x.2.2 = []) else decide (x.2.1 ∈ ops7) && decide ((parseV x.2.2).2.2.2 = 0))

theorem relRight_eq (n o v : List UInt8) (hv : v.length < 1000000000) : relation_Right n o v = some (rightR (n, o, v)) := by
  unfold relation_Right rightR
  rw [name_eq, Option.bind_some]
  cases nameV n
  · rfl
  · simp only [Bool.not_true, cond_false, Bool.true_and]
    by_cases ho : o = []
    · simp [ho]
    · simp only [ho, decide_false, cond_false, if_false]
      rw [vparse_eq v (by omega)]
      simp only [ops7, List.mem_cons, List.not_mem_nil, or_false]
      by_cases h1 : o = [60, 60]
      · simp [h1]
      · by_cases h2 : o = [60, 61]
        · simp [h2]
        · by_cases h3 : o = [61]
          · simp [h3]
          · by_cases h4 : o = [62, 61]
            · simp [h4]
            · by_cases h5 : o = [62, 62]
              · simp [h5]
              · simp [h1, h2, h3, h4, h5]

theorem refRelRight_eq (n o v : List UInt8) (hn : n.length < 1000000000) (hv : v.length < 1000000000) : cellarerref07_Right n o v = some (rightR (n, o, v)) := by
  unfold cellarerref07_Right rightR
  rw [refName_eq n (by omega), Option.bind_some]
  cases nameV n
  · rfl
  · simp only [Bool.not_true, cond_false, Bool.true_and]
    by_cases ho : o = []
    · simp [ho]
    · simp only [ho, decide_false, cond_false, if_false]
      rw [rparse_eq v (by omega)]
      simp only [ops7, List.mem_cons, List.not_mem_nil, or_false]
      by_cases h1 : o = [60, 60]
      · simp [h1]
      · by_cases h2 : o = [60, 61]
        · simp [h2]
        · by_cases h3 : o = [61]
          · simp [h3]
          · by_cases h4 : o = [62, 61]
            · simp [h4]
            · by_cases h5 : o = [62, 62]
              · simp [h5]
              · simp [h1, h2, h3, h4, h5]

def textR (x : Rl) : List UInt8 := if x.2.1 = [] then x.1 else x.1 ++ [32, 40] ++ x.2.1 ++ [32] ++ x.2.2 ++ [41]

theorem textR_eq (n o v : List UInt8) (h : n.length + o.length + v.length < 1000000000) : relation_Text n o v = some (textR (n, o, v)) := by
  unfold relation_Text textR
  by_cases ho : o = []
  · simp [ho]
  · simp only [ho, decide_false, cond_false, if_false, List.length_append, List.length_cons, List.length_nil]
    rw [if_pos (by omega), if_pos (by omega), if_pos (by omega), if_pos (by omega), if_pos (by omega)]

theorem refTextR_eq (n o v : List UInt8) (h : n.length + o.length + v.length < 1000000000) : cellarerref07_Text n o v = some (textR (n, o, v)) := by
  unfold cellarerref07_Text textR
  by_cases ho : o = []
  · simp [ho]
  · simp only [ho, decide_false, cond_false, if_false, List.length_append, List.length_cons, List.length_nil]
    rw [if_pos (by omega), if_pos (by omega), if_pos (by omega), if_pos (by omega), if_pos (by omega)]

/-! ### what bytes are in right ones -/

def bad7 (c : UInt8) : Bool := decide (c = 32) || (decide (c = 40) || (decide (c = 44) || decide (c = 124)))

theorem isD_ok {c : UInt8} (h : isD c = true) : bad7 c = false := by
  have := isD_range h
  simp only [bad7, Bool.or_eq_false_iff, decide_eq_false_iff_not]
  refine ⟨?_, ?_, ?_, ?_⟩ <;> (rintro rfl; revert this; decide)

theorem isL_ok {c : UInt8} (h : isL c = true) : bad7 c = false := by
  simp only [bad7, Bool.or_eq_false_iff, decide_eq_false_iff_not]
  refine ⟨?_, ?_, ?_, ?_⟩ <;> (rintro rfl; revert h; decide)

theorem mark_mem7 (c : Int) : ∀ (l : List UInt8) (i : Int), 0 ≤ i → 0 ≤ idxByte c l i → ∃ x ∈ l, (x.toNat : Int) = c
  | [], i, _, h => by simp [idxByte] at h
  | x :: r, i, hi, h => by
    unfold idxByte at h
    split at h
    · rename_i hx; exact ⟨x, by simp, hx⟩
    · obtain ⟨y, hy, e⟩ := mark_mem7 c r (i + 1) (by omega) h
      exact ⟨y, by simp [hy], e⟩

theorem only_ok {s marks : List UInt8} (hm : ∀ x ∈ marks, bad7 x = false) (h : onlyP s marks = true) : ∀ c ∈ s, bad7 c = false := by
  intro c hc
  unfold onlyP at h
  have := List.all_eq_true.mp h c hc
  simp only [Bool.or_eq_true, decide_eq_true_eq] at this
  rcases this with (h1 | h1) | h1
  · exact isD_ok h1
  · exact isL_ok h1
  · obtain ⟨x, hx, e⟩ := mark_mem7 _ marks 0 (by omega) h1
    have : x = c := UInt8.toNat_inj.mp (by omega)
    rw [← this]; exact hm x hx

theorem nameV_ok {s : List UInt8} (h : nameV s = true) : ∀ c ∈ s, bad7 c = false := by
  intro c hc
  unfold nameV at h
  simp only [Bool.and_eq_true] at h
  have key : ∀ (l : List UInt8) (k : Nat), allFrom nameAt k l = true → ∀ c ∈ l, bad7 c = false := by
    intro l
    induction l with
    | nil => intro k _ c hc; simp at hc
    | cons x r ih =>
      intro k hk c hc
      simp only [allFrom, Bool.and_eq_true] at hk
      rcases List.mem_cons.mp hc with rfl | hc
      · have := hk.1
        unfold nameAt isWord isMark at this
        simp only [bad7, Bool.or_eq_false_iff, decide_eq_false_iff_not]
        refine ⟨?_, ?_, ?_, ?_⟩ <;> (rintro rfl; revert this; simp)
      · exact ih (k + 1) hk.2 c hc
  exact key s 0 h.2 c hc

theorem ops_ok {o : List UInt8} (h : o ∈ ops7) : ∀ c ∈ o, bad7 c = false := by
  intro c hc
  simp only [ops7, List.mem_cons, List.not_mem_nil, or_false] at h
  rcases h with rfl | rfl | rfl | rfl | rfl <;> simp at hc <;> (try rcases hc with rfl | rfl) <;> (try subst hc) <;> decide

theorem lastIdx_lt (c : Int) (l : List UInt8) : lastIdx c l 0 (-1) < l.length := by
  have := last_lt c l 0 (-1) (by omega)
  omega

theorem idxByte_take (c : UInt8) : ∀ (l : List UInt8) (i m : Nat), idxByte (c.toNat : Int) l (i : Int) = ((i + m : Nat) : Int) → l = l.take m ++ c :: l.drop (m + 1)
  | [], i, m, h => by simp [idxByte] at h; omega
  | x :: r, i, m, h => by
    unfold idxByte at h
    split at h
    · rename_i hx
      have : m = 0 := by omega
      subst this
      have : x = c := UInt8.toNat_inj.mp (by omega)
      subst this
      simp
    · have ih := idxByte_take c r (i + 1)
      have hge : ∀ (l : List UInt8) (j : Int), idxByte (c.toNat : Int) l j = -1 ∨ j ≤ idxByte (c.toNat : Int) l j := by
        intro l
        induction l with
        | nil => intro j; left; rfl
        | cons y q ih =>
          intro j
          unfold idxByte
          split
          · right; omega
          · rcases ih (j + 1) with h | h
            · left; exact h
            · right; omega
      have h' : idxByte (c.toNat : Int) r (((i + 1 : Nat)) : Int) = ((i + m : Nat) : Int) := by
        rw [← h]; congr 1
      have hm : 1 ≤ m := by
        rcases hge r ((i + 1 : Nat) : Int) with q | q <;> omega
      obtain ⟨m', rfl⟩ : ∃ m', m = m' + 1 := ⟨m - 1, by omega⟩
      have := ih m' (by rw [h']; congr 1; omega)
      simp only [List.take_succ_cons, List.drop_succ_cons, List.cons_append]
      rw [← this]

theorem cutHy_mem {s : List UInt8} (h1 : ∀ c ∈ (cutHy s).1, bad7 c = false) (h2 : ∀ c ∈ (cutHy s).2, bad7 c = false) : ∀ c ∈ s, bad7 c = false := by
  unfold cutHy at h1 h2
  dsimp only at h1 h2
  split at h1
  · rename_i h
    rw [if_pos h] at h2
    have hlt := lastIdx_lt 45 s
    obtain ⟨m, hm⟩ : ∃ m : Nat, lastIdx 45 s 0 (-1) = (m : Int) := ⟨(lastIdx 45 s 0 (-1)).toNat, by omega⟩
    rw [hm, Int.toNat_natCast] at h1 h2
    have hml : m < s.length := by omega
    intro c hc
    have e : s = s.take m ++ s[m] :: s.drop (m + 1) := by
      rw [← List.drop_eq_getElem_cons hml, List.take_append_drop]
    have hsm : s[m] = 45 := by
      have key : ∀ (l : List UInt8) (i o : Int) (m : Nat), lastIdx 45 l i o = i + (m : Int) → o < i → ∀ (hm : m < l.length), l[m] = 45 := by
        intro l
        induction l with
        | nil => intro i o m h ho hm; simp at hm
        | cons x r ih =>
          intro i o m h ho hm
          unfold lastIdx at h
          cases m with
          | zero =>
            by_cases hx : (x.toNat : Int) = 45
            · have : x = 45 := UInt8.toNat_inj.mp (by have : (45 : UInt8).toNat = 45 := rfl; omega)
              simpa using this
            · exfalso
              rw [if_neg hx] at h
              have hgo : ∀ (l : List UInt8) (i o : Int), o < i → lastIdx 45 l i o = o ∨ i ≤ lastIdx 45 l i o := by
                intro l
                induction l with
                | nil => intro i o _; left; rfl
                | cons y q ihq =>
                  intro i o ho
                  unfold lastIdx
                  by_cases hy : (y.toNat : Int) = 45
                  · rw [if_pos hy]
                    rcases ihq (i + 1) i (by omega) with q | q
                    · right; omega
                    · right; omega
                  · rw [if_neg hy]
                    rcases ihq (i + 1) o (by omega) with q | q
                    · left; exact q
                    · right; omega
              rcases hgo r (i + 1) o (by omega) with q | q <;> omega
          | succ m =>
            simp only [List.getElem_cons_succ]
            by_cases hx : (x.toNat : Int) = 45
            · rw [if_pos hx] at h
              exact ih (i + 1) i m (by omega) (by omega) (by simpa using hm)
            · rw [if_neg hx] at h
              exact ih (i + 1) o m (by omega) (by omega) (by simpa using hm)
      exact key s 0 (-1) m (by omega) (by omega) hml
    rw [e] at hc
    simp only [List.mem_append, List.mem_cons] at hc
    rcases hc with hc | rfl | hc
    · exact h1 c hc
    · rw [hsm]; decide
    · exact h2 c hc
  · exact h1

theorem version_ok {v : List UInt8} (h : (parseV v).2.2.2 = 0) : ∀ c ∈ v, bad7 c = false := by
  unfold parseV at h
  split at h
  · cases h
  · split at h
    · cases h
    · rename_i marks rest n hf
      split at h
      · rename_i hok
        have hr : ∀ c ∈ rest, bad7 c = false := by
          refine cutHy_mem ?_ ?_
          · unfold okUR at hok
            split at hok
            · cases hok
            · rename_i c u hu
              simp only [Bool.and_eq_true] at hok
              have hmk : ∀ x ∈ marks, bad7 x = false := by
                unfold front at hf
                dsimp only at hf
                split at hf
                · split at hf
                  · simp only [Option.some.injEq, Prod.mk.injEq] at hf
                    rw [← hf.1]; intro x hx; simp only [marks5, List.mem_cons, List.not_mem_nil, or_false] at hx
                    rcases hx with rfl | rfl | rfl | rfl | rfl <;> decide
                  · cases hf
                · simp only [Option.some.injEq, Prod.mk.injEq] at hf
                  rw [← hf.1]; intro x hx; simp only [marks4, List.mem_cons, List.not_mem_nil, or_false] at hx
                  rcases hx with rfl | rfl | rfl | rfl <;> decide
              exact only_ok hmk hok.1.1.2
          · unfold okUR at hok
            split at hok
            · cases hok
            · simp only [Bool.and_eq_true] at hok
              refine only_ok (marks := marksR) (fun x hx => ?_) hok.2
              simp only [marksR, List.mem_cons, List.not_mem_nil, or_false] at hx
              rcases hx with rfl | rfl | rfl <;> decide
        unfold front at hf
        dsimp only at hf
        split at hf
        · rename_i hi
          split at hf
          · rename_i he
            simp only [Option.some.injEq, Prod.mk.injEq] at hf
            obtain ⟨_, hre, _⟩ := hf
            obtain ⟨m, hm⟩ : ∃ m : Nat, idxByte 58 v 0 = (m : Int) := ⟨(idxByte 58 v 0).toNat, by omega⟩
            rw [hm, Int.toNat_natCast] at he hre
            have e := idxByte_take 58 v 0 m (by simpa using hm)
            intro c hc
            rw [e] at hc
            simp only [List.mem_append, List.mem_cons] at hc
            rcases hc with hc | rfl | hc
            · exact isD_ok (List.all_eq_true.mp he.2 c hc)
            · decide
            · exact hr c (by rw [← hre]; exact hc)
          · cases hf
        · simp only [Option.some.injEq, Prod.mk.injEq] at hf
          rw [hf.2.1]; exact hr
      · cases h

theorem not_of_bad {s : List UInt8} (h : ∀ c ∈ s, bad7 c = false) : (∀ c ∈ s, c ≠ 32) ∧ (∀ c ∈ s, c ≠ 40) ∧ (∀ c ∈ s, c ≠ 44) ∧ (∀ c ∈ s, c ≠ 124) := by
  refine ⟨?_, ?_, ?_, ?_⟩ <;> (intro c hc e; subst e; exact absurd (h _ hc) (by decide))

/-- A right relation's text has neither mark between things. -/
theorem textR_ok {x : Rl} (h : rightR x = true) : (∀ c ∈ textR x, c ≠ 44) ∧ (∀ c ∈ textR x, c ≠ 124) ∧ textR x ≠ [] := by
  unfold rightR at h
  simp only [Bool.and_eq_true] at h
  obtain ⟨hn, h⟩ := h
  have n1 := not_of_bad (nameV_ok hn)
  have hne : x.1 ≠ [] := by
    rintro e
    rw [e] at hn
    exact absurd hn (by decide)
  unfold textR
  split at h
  · rename_i ho
    rw [if_pos ho]
    exact ⟨n1.2.2.1, n1.2.2.2, hne⟩
  · rename_i ho
    simp only [Bool.and_eq_true, decide_eq_true_eq] at h
    have o1 := not_of_bad (ops_ok h.1)
    have v1 := not_of_bad (version_ok h.2)
    rw [if_neg ho]
    refine ⟨?_, ?_, by simp⟩
    · intro c hc
      simp only [List.mem_append, List.mem_cons, List.not_mem_nil, or_false] at hc
      rcases hc with ((((hc | hc) | hc) | hc) | hc) | hc
      · exact n1.2.2.1 c hc
      · rcases hc with rfl | rfl <;> decide
      · exact o1.2.2.1 c hc
      · subst hc; decide
      · exact v1.2.2.1 c hc
      · subst hc; decide
    · intro c hc
      simp only [List.mem_append, List.mem_cons, List.not_mem_nil, or_false] at hc
      rcases hc with ((((hc | hc) | hc) | hc) | hc) | hc
      · exact n1.2.2.2 c hc
      · rcases hc with rfl | rfl <;> decide
      · exact o1.2.2.2 c hc
      · subst hc; decide
      · exact v1.2.2.2 c hc
      · subst hc; decide

/-! ### read -/

def candP (s : List UInt8) : Rl :=
  if (cutV s [32, 40]).2.2 = true then
    let r := cutV (cutV s [32, 40]).2.1 [32]
    ((cutV s [32, 40]).1, r.1, if r.2.1.getLast? = some 41 then r.2.1.dropLast else r.2.1)
  else (s, [], [])

def candR (s : List UInt8) : Rl :=
  let w := piecesC 32 s []
  if w.length = 3 ∧ w.getD 1 [] ≠ [] ∧ w.getD 2 [] ≠ [] then (w.getD 0 [], (w.getD 1 []).drop 1, (w.getD 2 []).dropLast) else (w.getD 0 [], [], [])

def readR (x : Rl) (s : List UInt8) : Option Rl := if rightR x = true ∧ textR x = s then some x else none

theorem candP_text {x : Rl} (h : rightR x = true) : candP (textR x) = x := by
  have h0 := h
  unfold rightR at h
  simp only [Bool.and_eq_true] at h
  obtain ⟨hn, h⟩ := h
  have n1 := not_of_bad (nameV_ok hn)
  obtain ⟨n, o, v⟩ := x
  dsimp only at hn h n1
  split at h
  · rename_i ho
    have hv : v = [] := by simpa using h
    subst ho hv
    have ht : textR (n, [], []) = n := rfl
    rw [ht]
    have hi : Lib.index n [32, 40] = -1 := index_no (a := [32]) (b := []) n1.2.1
    unfold candP cutV
    rw [hi]
    simp
  · rename_i ho
    simp only [Bool.and_eq_true, decide_eq_true_eq] at h
    have o1 := not_of_bad (ops_ok h.1)
    have v1 := not_of_bad (version_ok h.2)
    have ht : textR (n, o, v) = n ++ ([32] ++ 40 :: [] ++ (o ++ ([] ++ 32 :: [] ++ (v ++ [41])))) := by
      unfold textR
      rw [if_neg ho]
      simp
    have hi : Lib.index (textR (n, o, v)) [32, 40] = (n.length : Int) := by
      rw [ht]; exact index_sep (a := [32]) (b := []) n1.2.1 (by simp)
    have hc1 : cutV (textR (n, o, v)) [32, 40] = (n, o ++ ([] ++ 32 :: [] ++ (v ++ [41])), true) := by
      unfold cutV
      rw [hi, if_pos (by omega), Int.toNat_natCast, ht, List.take_left]
      have : n.length + ([32, 40] : List UInt8).length = n.length + 2 := rfl
      rw [this, ← List.drop_drop, List.drop_left]
      rfl
    have hi2 : Lib.index (o ++ ([] ++ 32 :: [] ++ (v ++ [41]))) [32] = (o.length : Int) := index_sep (a := []) (b := []) o1.1 (by simp)
    have hc2 : cutV (o ++ ([] ++ 32 :: [] ++ (v ++ [41]))) [32] = (o, v ++ [41], true) := by
      unfold cutV
      rw [hi2, if_pos (by omega), Int.toNat_natCast, List.take_left]
      have : o.length + ([32] : List UInt8).length = o.length + 1 := rfl
      rw [this, ← List.drop_drop, List.drop_left]
      rfl
    unfold candP
    rw [hc1]
    dsimp only
    rw [if_pos rfl, hc2]
    simp

theorem candR_text {x : Rl} (h : rightR x = true) : candR (textR x) = x := by
  have h0 := h
  unfold rightR at h
  simp only [Bool.and_eq_true] at h
  obtain ⟨hn, h⟩ := h
  have n1 := not_of_bad (nameV_ok hn)
  obtain ⟨n, o, v⟩ := x
  dsimp only at hn h n1
  split at h
  · rename_i ho
    have hv : v = [] := by simpa using h
    subst ho hv
    have ht : textR (n, [], []) = n := rfl
    rw [ht]
    unfold candR
    rw [piecesC_none 32 n [] n1.1]
    simp
  · rename_i ho
    simp only [Bool.and_eq_true, decide_eq_true_eq] at h
    have o1 := not_of_bad (ops_ok h.1)
    have v1 := not_of_bad (version_ok h.2)
    have ht : textR (n, o, v) = n ++ 32 :: ((40 :: o) ++ 32 :: (v ++ [41])) := by
      unfold textR
      rw [if_neg ho]
      simp
    unfold candR
    rw [ht, piecesC_one 32 n _ [] n1.1, piecesC_one 32 (40 :: o) _ [] (by
      intro y hy
      rcases List.mem_cons.mp hy with rfl | hy
      · decide
      · exact o1.1 y hy), piecesC_none 32 (v ++ [41]) [] (by
      intro y hy
      rcases List.mem_append.mp hy with hy | hy
      · exact v1.1 y hy
      · simp only [List.mem_singleton] at hy; subst hy; decide)]
    simp

theorem readR_same (s : List UInt8) : readR (candR s) s = readR (candP s) s := by
  unfold readR
  by_cases h : rightR (candP s) = true ∧ textR (candP s) = s
  · have e : candR s = candP s := by
      have := candR_text h.1
      rwa [h.2] at this
    rw [e]
  · rw [if_neg h]
    by_cases h' : rightR (candR s) = true ∧ textR (candR s) = s
    · exfalso
      have e : candP s = candR s := by
        have := candP_text h'.1
        rwa [h'.2] at this
      rw [e] at h
      exact h h'
    · rw [if_neg h']

/-- A text's relation, if it is one. -/
def parseR (s : List UInt8) : Option Rl := readR (candP s) s

theorem parseR_iff {s : List UInt8} {x : Rl} : parseR s = some x ↔ rightR x = true ∧ textR x = s := by
  unfold parseR readR
  constructor
  · intro h
    split at h
    · rename_i hc
      simp only [Option.some.injEq] at h
      rw [← h]; exact hc
    · cases h
  · rintro ⟨h1, h2⟩
    have e := candP_text h1
    rw [h2] at e
    rw [e, if_pos ⟨h1, h2⟩]

theorem cutV_len (s sep : List UInt8) : (cutV s sep).1.length ≤ s.length ∧ (cutV s sep).2.1.length ≤ s.length := by
  unfold cutV
  split
  · simp; omega
  · simp

theorem candP_len (s : List UInt8) : (candP s).1.length ≤ s.length ∧ (candP s).2.1.length ≤ s.length ∧ (candP s).2.2.length ≤ s.length := by
  have h1 := cutV_len s [32, 40]
  have h2 := cutV_len (cutV s [32, 40]).2.1 [32]
  unfold candP
  split
  · refine ⟨h1.1, by dsimp only; omega, ?_⟩
    dsimp only
    split
    · simp; omega
    · omega
  · simp

theorem relParse_eq (s : List UInt8) (hs : s.length < 100000000) : relation_Parse s = some (match parseR s with | some x => (x.1, x.2.1, x.2.2, 0) | none => ([], [], [], 2)) := by
  have hl := candP_len s
  have hc : ((strings_Cut s [32, 40]).bind fun a_626 =>
      bif a_626.2.2 then
        (strings_Cut a_626.2.1 [32]).bind fun a_627 =>
          (strings_TrimSuffix a_627.2.1 [41]).bind fun a_628 => some (a_626.1, a_627.1, a_628)
      else some (s, [], [])) = some (candP s) := by
    have h1 := cutV_len s [32, 40]
    have h2 := cutV_len (cutV s [32, 40]).2.1 [32]
    rw [cut_eq s [32, 40] (by omega) (by decide), Option.bind_some]
    unfold candP
    cases hb : (cutV s [32, 40]).2.2
    · simp
    · simp only [cond_true, if_true]
      rw [cut_eq _ [32] (by omega) (by decide), Option.bind_some, trimSuffix_eq _ (by omega) 41]
      rfl
  unfold relation_Parse
  rw [hc, Option.bind_some, relRight_eq _ _ _ (by omega), Option.bind_some]
  unfold parseR readR
  cases hr : rightR (candP s)
  · simp
  · rw [textR_eq _ _ _ (by omega)]
    simp only [Bool.not_true, cond_false, Option.bind_some, true_and]
    have ht : textR ((candP s).1, (candP s).2.1, (candP s).2.2) = textR (candP s) := rfl
    rw [ht]
    by_cases h : textR (candP s) = s
    · simp [h]
    · simp [h]

theorem refRelParse_eq (s : List UInt8) (hs : s.length < 100000000) : cellarerref07_Parse s = some (match parseR s with | some x => (x.1, x.2.1, x.2.2, true) | none => ([], [], [], false)) := by
  have hsp : cellarerref06_Split s (32 : Int) = some (piecesC 32 s []) := refSplitC 32 s (by omega)
  obtain ⟨W, hW⟩ : ∃ W, W = piecesC 32 s [] := ⟨_, rfl⟩
  have hWl : 1 ≤ W.length := by rw [hW]; exact (piecesC_len 32 s []).1
  have hsm : ∀ i, (W.getD i []).length ≤ s.length := by
    intro i
    rw [List.getD_eq_getElem?_getD]
    cases h : W[i]? with
    | none => simp
    | some x => rw [hW] at h; exact piecesC_small 32 s [] s.length (by simp) x (List.mem_of_getElem? h)
  have hm0 := hsm 0
  have hm1 := hsm 1
  have hm2 := hsm 2
  unfold cellarerref07_Parse
  rw [hsp, Option.bind_some, ← hW]
  rw [if_pos (by omega), if_pos (by omega)]
  have e2 : ∀ n : Nat, ((n : Int) - ((0 : Nat) : Int)) = (n : Int) := fun n => by omega
  have hcand : candR s = if W.length = 3 ∧ W.getD 1 [] ≠ [] ∧ W.getD 2 [] ≠ [] then (W.getD 0 [], (W.getD 1 []).drop 1, (W.getD 2 []).dropLast) else (W.getD 0 [], [], []) := by
    unfold candR; rw [← hW]
  have hmid : (bif Decidable.decide (((W.length : Nat) : Int) - ((0 : Nat) : Int) = (3 : Int)) then
      if (0 : Int) ≤ (1 : Int) ∧ (1 : Int) + ((0 : Nat) : Int) < ((W.length : Nat) : Int) then
        if (1 : Nat) < W.length then
          bif Decidable.decide ((0 : Int) < (((W.getD 1 []).length : Nat) : Int)) then
            if (0 : Int) ≤ (2 : Int) ∧ (2 : Int) + ((0 : Nat) : Int) < ((W.length : Nat) : Int) then
              if (2 : Nat) < W.length then
                bif Decidable.decide ((0 : Int) < (((W.getD 2 []).length : Nat) : Int)) then
                  if (0 : Int) ≤ (1 : Int) ∧ (1 : Int) + ((0 : Nat) : Int) < ((W.length : Nat) : Int) then
                    if (1 : Nat) < W.length then
                      if (0 : Int) ≤ (1 : Int) ∧ (1 : Int) ≤ (((W.getD 1 []).length : Nat) : Int) ∧ (((W.getD 1 []).length : Nat) : Int) ≤ (((W.getD 1 []).length : Nat) : Int) then
                        if (0 : Int) ≤ (2 : Int) ∧ (2 : Int) + ((0 : Nat) : Int) < ((W.length : Nat) : Int) then
                          if (2 : Nat) < W.length then
                            if (0 : Int) ≤ (2 : Int) ∧ (2 : Int) + ((0 : Nat) : Int) < ((W.length : Nat) : Int) then
                              if (2 : Nat) < W.length then
                                if (0 : Int) ≤ (0 : Int) ∧ (0 : Int) ≤ IntKind.wrap IntKind.i64 ((((W.getD 2 []).length : Nat) : Int) - (1 : Int)) ∧ IntKind.wrap IntKind.i64 ((((W.getD 2 []).length : Nat) : Int) - (1 : Int)) ≤ (((W.getD 2 []).length : Nat) : Int) then
                                  some (List.drop (Int.toNat (1 : Int)) (List.take (Int.toNat (((W.getD 1 []).length : Nat) : Int)) (W.getD 1 [])), List.drop (Int.toNat (0 : Int)) (List.take (Int.toNat (IntKind.wrap IntKind.i64 ((((W.getD 2 []).length : Nat) : Int) - (1 : Int)))) (W.getD 2 [])))
                                else none
                              else none
                            else none
                          else none
                        else none
                      else none
                    else none
                  else none
                else some ([], [])
              else none
            else none
          else some ([], [])
        else none
      else none
    else some ([], [])) = some ((candR s).2.1, (candR s).2.2) := by
    rw [hcand, e2]
    by_cases h3 : W.length = 3
    · have hd : decide (((W.length : Nat) : Int) = (3 : Int)) = true := decide_eq_true (by omega)
      rw [hd]
      simp only [cond_true]
      rw [if_pos (by omega), if_pos (by omega)]
      by_cases h1 : W.getD 1 [] = []
      · have hd1 : decide ((0 : Int) < (((W.getD 1 []).length : Nat) : Int)) = false := by rw [h1]; rfl
        rw [hd1, cond_false, if_neg (by rintro ⟨_, q, _⟩; exact q h1)]
      · have p1 : 0 < (W.getD 1 []).length := List.length_pos_iff.mpr h1
        have hd1 : decide ((0 : Int) < (((W.getD 1 []).length : Nat) : Int)) = true := decide_eq_true (by omega)
        rw [hd1]
        simp only [cond_true]
        rw [if_pos (by omega), if_pos (by omega)]
        by_cases h2 : W.getD 2 [] = []
        · have hd2 : decide ((0 : Int) < (((W.getD 2 []).length : Nat) : Int)) = false := by rw [h2]; rfl
          rw [hd2, cond_false, if_neg (by rintro ⟨_, _, q⟩; exact q h2)]
        · have p2 : 0 < (W.getD 2 []).length := List.length_pos_iff.mpr h2
          have hd2 : decide ((0 : Int) < (((W.getD 2 []).length : Nat) : Int)) = true := decide_eq_true (by omega)
          have ew : IntKind.wrap IntKind.i64 ((((W.getD 2 []).length : Nat) : Int) - (1 : Int)) = (((W.getD 2 []).length - 1 : Nat) : Int) := by rw [w64 (by omega) (by omega)]; omega
          have hR : (if W.length = 3 ∧ W.getD 1 [] ≠ [] ∧ W.getD 2 [] ≠ [] then (W.getD 0 [], (W.getD 1 []).drop 1, (W.getD 2 []).dropLast) else (W.getD 0 [], [], [])) = (W.getD 0 [], (W.getD 1 []).drop 1, (W.getD 2 []).dropLast) := if_pos ⟨h3, h1, h2⟩
          rw [hd2, hR]
          simp only [cond_true, ew, Int.toNat_natCast, List.take_length]
          rw [if_pos (by omega), if_pos (by omega), if_pos (by omega), if_pos (by omega), if_pos (by omega), if_pos (by omega), if_pos (by omega), if_pos (by omega)]
          rw [List.dropLast_eq_take]
          rfl
    · have hd : decide (((W.length : Nat) : Int) = (3 : Int)) = false := decide_eq_false (by omega)
      rw [hd, cond_false, if_neg (by rintro ⟨q, _⟩; exact h3 q)]
  rw [hmid, Option.bind_some]
  have h0 : (candR s).1 = W.getD 0 [] := by rw [hcand]; split <;> rfl
  have hl1 : (candR s).2.1.length ≤ s.length ∧ (candR s).2.2.length ≤ s.length := by
    rw [hcand]; split
    · simp only [List.length_drop, List.length_dropLast]; omega
    · simp
  dsimp only
  rw [← h0, refRelRight_eq _ _ _ (by rw [h0]; omega) (by omega), Option.bind_some]
  have hsame := readR_same s
  unfold parseR
  rw [← hsame]
  unfold readR
  cases hr : rightR (candR s)
  · simp
  · rw [refTextR_eq _ _ _ (by rw [h0]; omega)]
    simp only [Bool.not_true, cond_false, Option.bind_some, true_and]
    have ht : textR ((candR s).1, (candR s).2.1, (candR s).2.2) = textR (candR s) := rfl
    rw [ht]
    by_cases h : textR (candR s) = s
    · simp [h]
    · simp [h]

end Go.Cellar
