/- VersionParses, as a plain law. No condition. -/
import Derived.Test.YtcbkbhmmehclmaaDoorPl5v
import Derived.Test.YtcbkbhmmehclmaaDoorPl5t
set_option linter.unusedSimpArgs false
namespace Go.Cellar
open Go

theorem idx_mem (c : Int) : ∀ (l : List UInt8) (i : Int), 0 ≤ i → (0 ≤ idxByte c l i ↔ ∃ x ∈ l, (x.toNat : Int) = c) := by
  intro l
  induction l with
  | nil => intro i _; simp [idxByte]
  | cons x r ih =>
    intro i hi
    simp only [idxByte]
    split
    · rename_i h; simp [h, hi]
    · rename_i h
      rw [ih (i + 1) (by omega)]
      simp [h]

theorem idx_at (c : Int) (x : UInt8) (q : List UInt8) (hx : (x.toNat : Int) = c) : ∀ (p : List UInt8) (i : Int), (∀ y ∈ p, (y.toNat : Int) ≠ c) → idxByte c (p ++ x :: q) i = i + p.length := by
  intro p
  induction p with
  | nil => intro i _; simp [idxByte, hx]
  | cons y p ih =>
    intro i h
    simp only [List.cons_append, idxByte]
    rw [if_neg (h y (by simp)), ih (i + 1) (fun z hz => h z (by simp [hz]))]
    simp only [List.length_cons]
    omega

theorem last_none (c : Int) : ∀ (l : List UInt8) (i o : Int), (∀ y ∈ l, (y.toNat : Int) ≠ c) → lastIdx c l i o = o := by
  intro l
  induction l with
  | nil => intro i o _; rfl
  | cons y l ih =>
    intro i o h
    simp only [lastIdx]
    rw [if_neg (h y (by simp)), ih _ _ (fun z hz => h z (by simp [hz]))]

theorem last_at (c : Int) (x : UInt8) (q : List UInt8) (hx : (x.toNat : Int) = c) (hq : ∀ y ∈ q, (y.toNat : Int) ≠ c) : ∀ (p : List UInt8) (i o : Int), lastIdx c (p ++ x :: q) i o = i + p.length := by
  intro p
  induction p with
  | nil => intro i o; simp [lastIdx, hx, last_none c q _ _ hq]
  | cons y p ih =>
    intro i o
    simp only [List.cons_append, lastIdx, ih, List.length_cons]
    omega

theorem dval_append (a b : List UInt8) (n : Nat) : dval (a ++ b) n = dval b (dval a n) := by simp [dval]

theorem ofNat_digit (d : Nat) (h : d < 10) : isD (UInt8.ofNat (48 + d)) = true ∧ (UInt8.ofNat (48 + d)).toNat = 48 + d := by
  have : d = 0 ∨ d = 1 ∨ d = 2 ∨ d = 3 ∨ d = 4 ∨ d = 5 ∨ d = 6 ∨ d = 7 ∨ d = 8 ∨ d = 9 := by omega
  rcases this with rfl | rfl | rfl | rfl | rfl | rfl | rfl | rfl | rfl | rfl <;> decide

theorem dig_facts (m : Nat) : (dig m).all isD = true ∧ dval (dig m) 0 = m ∧ 1 ≤ (dig m).length := by
  induction m using Nat.strongRecOn with
  | ind m ih =>
    by_cases h : m < 10
    · rw [dig_small h]
      obtain ⟨h1, h2⟩ := ofNat_digit (m % 10) (by omega)
      refine ⟨by simp only [List.all_cons, List.all_nil, h1]; rfl, ?_, by simp⟩
      simp only [dval, List.foldl_cons, List.foldl_nil, h2]
      omega
    · rw [dig_big h]
      obtain ⟨h1, h2⟩ := ofNat_digit (m % 10) (by omega)
      obtain ⟨g1, g2, g3⟩ := ih (m / 10) (by omega)
      refine ⟨by rw [List.all_append, g1, List.all_cons, h1]; rfl, ?_, by simp⟩
      rw [dval_append, g2]
      simp only [dval, List.foldl_cons, List.foldl_nil, h2]
      omega

theorem isD_ne {c : UInt8} (h : isD c = true) : (c.toNat : Int) ≠ 58 ∧ (c.toNat : Int) ≠ 45 := by
  have := isD_range h
  omega
theorem isL_ne {c : UInt8} (h : isL c = true) : (c.toNat : Int) ≠ 58 ∧ (c.toNat : Int) ≠ 45 := by
  simp [isL] at h
  omega

theorem marksR_ne {r : List UInt8} (h : onlyP r marksR = true) : ∀ y ∈ r, (y.toNat : Int) ≠ 58 ∧ (y.toNat : Int) ≠ 45 := by
  intro y hy
  have := List.all_eq_true.mp h y hy
  simp only [Bool.or_eq_true, decide_eq_true_eq] at this
  rcases this with (h1 | h1) | h1
  · exact isD_ne h1
  · exact isL_ne h1
  · rw [idx_mem _ _ _ (by omega)] at h1
    obtain ⟨x, hx, e⟩ := h1
    simp only [marksR, List.mem_cons, List.not_mem_nil, or_false] at hx
    rcases hx with rfl | rfl | rfl <;> (rw [← e]; decide)

theorem marks_mem (c : Int) (l : List UInt8) : (0 ≤ idxByte c l 0) = ∃ x ∈ l, (x.toNat : Int) = c := propext (idx_mem c l 0 (by omega))

theorem only45 {u : List UInt8} (h : onlyP u marks4 = true) : onlyP u marks5 = true := by
  refine List.all_eq_true.mpr fun y hy => ?_
  have := List.all_eq_true.mp h y hy
  simp only [Bool.or_eq_true, decide_eq_true_eq, marks_mem] at this ⊢
  rcases this with h1 | ⟨x, hx, e⟩
  · exact .inl h1
  · exact .inr ⟨x, by simp only [marks4, marks5, List.mem_cons, List.not_mem_nil, or_false] at hx ⊢; rcases hx with h | h | h | h <;> simp [h], e⟩

theorem only54 {u : List UInt8} (h : onlyP u marks5 = true) (hn : ∀ y ∈ u, (y.toNat : Int) ≠ 58) : onlyP u marks4 = true := by
  refine List.all_eq_true.mpr fun y hy => ?_
  have := List.all_eq_true.mp h y hy
  have hy' := hn y hy
  simp only [Bool.or_eq_true, decide_eq_true_eq, marks_mem] at this ⊢
  rcases this with h1 | ⟨x, hx, e⟩
  · exact .inl h1
  · refine .inr ⟨x, ?_, e⟩
    simp only [marks4, marks5, List.mem_cons, List.not_mem_nil, or_false] at hx ⊢
    rcases hx with h | h | h | h | h
    · simp [h]
    · simp [h]
    · simp [h]
    · simp [h]
    · subst h
      exact absurd e.symm hy'

theorem only4_ne {u : List UInt8} (h : onlyP u marks4 = true) : ∀ y ∈ u, (y.toNat : Int) ≠ 58 := by
  intro y hy
  have := List.all_eq_true.mp h y hy
  simp only [Bool.or_eq_true, decide_eq_true_eq, marks_mem] at this
  rcases this with (h1 | h1) | ⟨x, hx, e⟩
  · exact (isD_ne h1).1
  · exact (isL_ne h1).1
  · simp only [marks4, List.mem_cons, List.not_mem_nil, or_false] at hx
    rcases hx with rfl | rfl | rfl | rfl <;> (rw [← e]; decide)

/-- A version that was parsed, as its text, is parsed as the same. -/
theorem round_trip (s : List UInt8) (h0 : (parseV s).2.2.2 = 0) (hlen : (textOf (parseV s).1 (parseV s).2.1 (parseV s).2.2.1).length ≤ 80) :
    parseV (textOf (parseV s).1 (parseV s).2.1 (parseV s).2.2.1) = parseV s := by
  -- what the parse found
  have hp : ∃ (n : Nat) (u r marks : List UInt8), parseV s = ((n : Int), u, r, 0) ∧ okUR marks u r = true ∧ ((marks = marks4 ∧ n = 0) ∨ marks = marks5) ∧ n < 10 ^ 9 := by
    unfold parseV at h0 ⊢
    split
    · rename_i h; rw [if_pos h] at h0; simp at h0
    · rename_i h
      rw [if_neg h] at h0
      split
      · rename_i hf; rw [hf] at h0; simp at h0
      · rename_i marks rest n hf
        rw [hf] at h0
        simp only at h0
        by_cases hok : okUR marks (cutHy rest).1 (cutHy rest).2 = true
        · rw [if_pos hok]
          refine ⟨n, _, _, marks, rfl, hok, ?_⟩
          unfold front at hf
          dsimp only at hf
          split at hf
          · split at hf
            · rename_i h1 h2
              simp only [Option.some.injEq, Prod.mk.injEq] at hf
              obtain ⟨rfl, rfl, rfl⟩ := hf
              refine ⟨.inr rfl, ?_⟩
              have := dval_bound _ 0 0 h2.2 (by simp)
              refine Nat.lt_of_lt_of_le this (Nat.pow_le_pow_right (by omega) ?_)
              have := h2.1
              omega
            · cases hf
          · simp only [Option.some.injEq, Prod.mk.injEq] at hf
            obtain ⟨rfl, rfl, rfl⟩ := hf
            exact ⟨.inl ⟨rfl, rfl⟩, by omega⟩
        · rw [if_neg hok] at h0; simp at h0
  obtain ⟨n, u, r, marks, hps, hok, hm, hn⟩ := hp
  rw [hps] at hlen ⊢
  simp only at hlen ⊢
  -- its parts
  have hok' := hok
  unfold okUR at hok'
  rcases u with _ | ⟨c, u'⟩
  · cases hok'
  · simp only [Bool.and_eq_true, Bool.not_eq_true', decide_eq_false_iff_not] at hok'
    generalize hu : c :: u' = u at *
    obtain ⟨⟨⟨hc, hou⟩, hr0⟩, hor⟩ := hok'
    have hrn := marksR_ne hor
    -- the body: the upstream's part with the revision
    have hcut : ∀ body : List UInt8, body = (if r ≠ [48] ∨ 0 ≤ idxByte 45 u 0 then u ++ [45] ++ r else u) → cutHy body = (u, r) := by
      intro body hb
      by_cases hap : r ≠ [48] ∨ 0 ≤ idxByte 45 u 0
      · rw [if_pos hap] at hb
        subst hb
        unfold cutHy
        rw [List.append_assoc, show ([45] ++ r : List UInt8) = 45 :: r from rfl, last_at 45 45 r (by decide) (fun y hy => (hrn y hy).2) u 0 (-1)]
        have e : ((0 : Int) + (u.length : Int)).toNat = u.length := by omega
        simp only [e]
        rw [if_pos (by omega)]
        simp
      · rw [if_neg hap] at hb
        subst hb
        have h1 : r = [48] := Classical.byContradiction fun h => hap (.inl h)
        have h2 : ¬ 0 ≤ idxByte 45 body 0 := fun h => hap (.inr h)
        unfold cutHy
        rw [last_none 45 body 0 (-1) (fun y hy e => h2 (by rw [marks_mem]; exact ⟨y, hy, e⟩))]
        simp [h1]
    have htext : textOf (n : Int) u r = (if 0 < n ∨ 0 ≤ idxByte 58 u 0 then dig n ++ 58 :: (if r ≠ [48] ∨ 0 ≤ idxByte 45 u 0 then u ++ [45] ++ r else u) else (if r ≠ [48] ∨ 0 ≤ idxByte 45 u 0 then u ++ [45] ++ r else u)) := by
      unfold textOf
      have e1 : (if (0 : Int) > (n : Int) then (0 : Int) else (n : Int)) = (n : Int) := by rw [if_neg (by omega)]
      have e2 : digI (n : Int) = dig n := by unfold digI; rw [if_neg (by omega)]; rfl
      have e3 : ((0 : Int) < (n : Int)) = (0 < n) := propext (by omega)
      simp only [e1, e2, e3]
      by_cases h1 : 0 < n ∨ 0 ≤ idxByte 58 u 0
      · rw [if_pos h1, if_pos h1]
        by_cases h2 : r ≠ [48] ∨ 0 ≤ idxByte 45 u 0
        · rw [if_pos h2, if_pos h2]; simp
        · rw [if_neg h2, if_neg h2]; simp
      · rw [if_neg h1, if_neg h1]
    rw [htext] at hlen ⊢
    generalize hbody : (if r ≠ [48] ∨ 0 ≤ idxByte 45 u 0 then u ++ [45] ++ r else u) = body at *
    have hcb := hcut body rfl
    have hfront : ∃ marks', front (if 0 < n ∨ 0 ≤ idxByte 58 u 0 then dig n ++ 58 :: body else body) = some (marks', body, n) ∧ onlyP u marks' = true := by
      by_cases h1 : 0 < n ∨ 0 ≤ idxByte 58 u 0
      · rw [if_pos h1]
        obtain ⟨d1, d2, d3⟩ := dig_facts n
        have d4 := dig_length 8 n hn
        refine ⟨marks5, ?_, ?_⟩
        · unfold front
          rw [idx_at 58 58 body (by decide) (dig n) 0 (fun y hy => (isD_ne (List.all_eq_true.mp d1 y hy)).1)]
          have e : ((0 : Int) + ((dig n).length : Int)).toNat = (dig n).length := by omega
          simp only [e]
          rw [if_pos (by omega), List.take_left, if_pos ⟨by omega, d1⟩, d2, show (dig n ++ 58 :: body).drop ((dig n).length + 1) = body by rw [← List.drop_drop, List.drop_left]; rfl]
        · rcases hm with ⟨rfl, _⟩ | rfl
          · exact only45 hou
          · exact hou
      · rw [if_neg h1]
        have hn0 : n = 0 := by
          rcases Nat.eq_zero_or_pos n with h | h
          · exact h
          · exact absurd (.inl h) h1
        subst hn0
        have hu58 : ∀ y ∈ u, (y.toNat : Int) ≠ 58 := fun y hy e => h1 (.inr (by rw [marks_mem]; exact ⟨y, hy, e⟩))
        refine ⟨marks4, ?_, ?_⟩
        · unfold front
          have hno : ¬ 0 ≤ idxByte 58 body 0 := by
            rw [marks_mem]
            rintro ⟨y, hy, e⟩
            rw [← hbody] at hy
            split at hy
            · simp only [List.append_assoc, List.mem_append, List.mem_cons, List.not_mem_nil, or_false] at hy
              rcases hy with hy | hy | hy
              · exact hu58 y hy e
              · subst hy; exact absurd e (by decide)
              · exact (hrn y hy).1 e
            · exact hu58 y hy e
          simp only [hno, if_false]
        · rcases hm with ⟨rfl, _⟩ | rfl
          · exact hou
          · exact only54 hou hu58
    obtain ⟨marks', hf, ho⟩ := hfront
    have hok2 : okUR marks' u r = true := by
      rw [← hu] at ho ⊢
      simp only [okUR, Bool.and_eq_true, Bool.not_eq_true', decide_eq_false_iff_not]
      exact ⟨⟨⟨hc, ho⟩, hr0⟩, hor⟩
    unfold parseV
    rw [if_neg (by omega), hf]
    simp only [hcb, hok2, if_true]

theorem parseV_epoch (s : List UInt8) : 0 ≤ (parseV s).1 ∧ (parseV s).1 < 1000000000 := by
  unfold parseV
  split
  · simp
  · split
    · simp
    · rename_i marks rest n hf
      have hn : n < 1000000000 := by
        unfold front at hf
        dsimp only at hf
        split at hf
        · split at hf
          · rename_i h1 h2
            simp only [Option.some.injEq, Prod.mk.injEq] at hf
            obtain ⟨rfl, rfl, rfl⟩ := hf
            have := dval_bound _ 0 0 h2.2 (by simp)
            have h3 : (10 : Nat) ^ (0 + (s.take (idxByte 58 s 0).toNat).length) ≤ 10 ^ 9 := Nat.pow_le_pow_right (by omega) (by have := h2.1; omega)
            omega
          · cases hf
        · simp only [Option.some.injEq, Prod.mk.injEq] at hf
          obtain ⟨rfl, rfl, rfl⟩ := hf
          omega
      split
      · simp only; omega
      · simp

theorem VersionParses_true (s : List UInt8) : cellarerlaw05_VersionParses s = some true := by
  unfold cellarerlaw05_VersionParses
  simp only [awake5, Option.bind_some]
  by_cases c1 : (1000 : Int) < (s.length : Int)
  · simp [c1]
  · rw [vparse_eq s (by omega), rparse_eq s (by omega)]
    simp only [c1, decide_false, cond_false, Option.bind_some, decide_true, Bool.and_self, Bool.not_true, Sum.elim_inr]
    by_cases c2 : (parseV s).2.2.2 = 0
    · obtain ⟨l1, l2⟩ := parseV_len s
      obtain ⟨e1, e2⟩ := parseV_epoch s
      rw [versionText_eq _ _ _ (by omega) (by omega) (by omega) (by omega)]
      simp only [c2, decide_true, Bool.not_true, cond_false, Option.bind_some]
      generalize ht : textOf (parseV s).1 (parseV s).2.1 (parseV s).2.2.1 = t
      have htl : t.length < 10000 := by
        rw [← ht]
        unfold textOf
        have := digI_len e1 (by omega)
        have e3 : (if (0 : Int) > (parseV s).1 then (0 : Int) else (parseV s).1) = (parseV s).1 := by rw [if_neg (by omega)]
        simp only [e3]
        split <;> split <;> simp <;> omega
      rw [vparse_eq t (by omega)]
      simp only [Option.bind_some]
      by_cases c3 : (80 : Int) < (t.length : Int)
      · simp [c3]
      · have hr := round_trip s c2 (by rw [ht]; omega)
        rw [ht] at hr
        rw [compare_eq s t (by omega) (by omega), hr]
        have hpt : parsedV t = parsedV s := by
          unfold parsedV
          rw [hr, if_pos c2, if_pos c2]
        rw [hpt, cmpV_self]
        simp [c3, c2]
    · simp [c2]

end Go.Cellar
