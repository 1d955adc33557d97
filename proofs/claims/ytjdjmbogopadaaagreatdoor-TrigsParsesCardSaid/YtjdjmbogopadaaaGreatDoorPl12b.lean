/- A path's parts, by plain lists. No condition. -/
import Derived.Test.YtjdjmbogopadaaaGreatDoorPl12a
set_option linter.unusedSimpArgs false
set_option linter.unusedVariables false
namespace Go.Cellar
open Go

/-- The parts between slashes, the first one begun already. -/
def pieces : List UInt8 → List UInt8 → List (List UInt8)
  | [], acc => [acc]
  | c :: r, acc => if c = 47 then acc :: pieces r [] else pieces r (acc ++ [c])

def full (l : List UInt8) : Bool := !decide (l = [])
def partsV (s : List UInt8) : List (List UInt8) := (pieces s []).filter full

theorem slice1 {s : List UInt8} {k : Nat} {c : UInt8} {r : List UInt8} (h : s.drop k = c :: r) : (s.take (k + 1)).drop k = [c] := by
  rw [List.drop_take, h]
  simp

/-! ### the document's parts -/

theorem refParts_loop (s : List UInt8) (hs : s.length < 1000000) : ∀ (r : List UInt8) (k : Nat) (acc : List UInt8) (out : List (List UInt8)), s.drop k = r → k + r.length = s.length → acc.length ≤ k → out.length ≤ k →
    ∃ acc' out', iter (cellarerref02_Parts_b0 s) (acc, (k : Int), out) = some (acc', out') ∧ out' ++ (if acc' = [] then [] else [acc']) = out ++ (pieces r acc).filter full ∧ acc'.length ≤ s.length ∧ out'.length ≤ s.length := by
  intro r
  induction r with
  | nil =>
    intro k acc out h hk ha ho
    simp only [List.length_nil] at hk
    refine ⟨acc, out, ?_, ?_, by omega, by omega⟩
    · rw [iter_inr (t := (acc, out))]
      unfold cellarerref02_Parts_b0
      simp [show ¬ k < s.length by omega]
    · simp only [pieces, List.filter_cons, List.filter_nil, full]
      by_cases hacc : acc = [] <;> simp [hacc]
  | cons c r ih =>
    intro k acc out h hk ha ho
    simp only [List.length_cons] at hk
    obtain ⟨g1, g2, g3⟩ := drop_cons h 0
    have hb : cellarerref02_Parts_b0 s (acc, (k : Int), out) = some (.inl (if c = 47 then ([], ((k + 1 : Nat) : Int), if acc = [] then out else out ++ [acc]) else (acc ++ [c], ((k + 1 : Nat) : Int), out))) := by
      unfold cellarerref02_Parts_b0
      simp only [natlt, g1, decide_true, cond_true, Int.natCast_nonneg, true_and, if_true, Int.toNat_natCast, g2, kplus g1 (by omega), u8_47, slice1 h]
      by_cases hc : c = 47
      · by_cases hacc : acc = []
        · simp [hc, hacc]
        · simp only [hc, hacc, decide_true, Bool.not_true, cond_false, decide_false, Bool.not_false, cond_true, if_true, if_false, List.drop_zero, List.length_cons, List.length_nil]
          rw [if_pos (by omega)]
      · simp only [hc, decide_false, Bool.not_false, cond_true, if_false, List.length_cons, List.length_nil]
        rw [if_pos (by omega), if_pos (by omega)]
    rw [iter_inl hb]
    by_cases hc : c = 47
    · rw [if_pos hc]
      obtain ⟨acc', out', h1, h2, h3, h4⟩ := ih (k + 1) [] (if acc = [] then out else out ++ [acc]) g3 (by omega) (by simp) (by split <;> first | omega | (rw [List.length_append]; simp; omega))
      refine ⟨acc', out', h1, ?_, h3, h4⟩
      rw [h2]
      simp only [pieces, hc, if_true, List.filter_cons, full]
      by_cases hacc : acc = [] <;> simp [hacc]
    · rw [if_neg hc]
      obtain ⟨acc', out', h1, h2, h3, h4⟩ := ih (k + 1) (acc ++ [c]) out g3 (by omega) (by simp; omega) (by omega)
      refine ⟨acc', out', h1, ?_, h3, h4⟩
      rw [h2]
      simp only [pieces, hc, if_false]

theorem refParts_eq (s : List UInt8) (hs : s.length < 1000000) : cellarerref02_Parts s = some (partsV s) := by
  unfold cellarerref02_Parts partsV
  obtain ⟨acc, out, h1, h2, h3, h4⟩ := refParts_loop s hs s 0 [] [] rfl (by simp) (by simp) (by simp)
  rw [show ((0 : Int)) = ((0 : Nat) : Int) from rfl, h1]
  simp only [List.nil_append] at h2
  rw [← h2]
  by_cases hacc : acc = []
  · simp [hacc]
  · simp only [Option.bind_some, hacc, decide_false, Bool.not_false, cond_true, if_false, List.drop_zero, List.length_cons, List.length_nil]
    rw [if_pos (by omega)]

/-! ### the program's parts -/

theorem lidx (c : UInt8) : ∀ (s : List UInt8) (i : Nat), idxByte (c.toNat : Int) s (i : Int) = if Lib.index s [c] = -1 then -1 else Lib.index s [c] + (i : Int)
  | [], i => by simp [idxByte, Lib.index]
  | b :: l, i => by
    have ih := lidx c l (i + 1)
    have hge := Lib.index_ge l [c]
    unfold idxByte Lib.index
    by_cases hb : c = b
    · subst hb
      simp [List.isPrefixOf]
    · have h1 : ¬ ((b.toNat : Int) = (c.toNat : Int)) := fun e => hb (UInt8.toNat_inj.mp (by omega))
      have h2 : ([c].isPrefixOf (b :: l)) = false := by simp [List.isPrefixOf, hb]
      rw [if_neg h1, h2]
      simp only [Bool.false_eq_true, if_false]
      have e : (i : Int) + 1 = ((i + 1 : Nat) : Int) := by omega
      rw [e, ih]
      by_cases hm : Lib.index l [c] = -1
      · simp [hm]
      · have hm' : ¬ ((Lib.index l [c] == -1) = true) := by simpa using hm
        rw [if_neg hm, if_neg hm', if_neg (by omega)]
        omega

theorem index_eq (s : List UInt8) (hs : s.length < 4294967281) : strings_Index s [47] = some (idxByte 47 s 0) := by
  unfold strings_Index
  rw [if_pos hs]
  have h := lidx 47 s 0
  have h0 : idxByte ((47 : UInt8).toNat : Int) s ((0 : Nat) : Int) = idxByte 47 s 0 := rfl
  rw [← h0, h]
  congr 1
  by_cases hm : Lib.index s [47] = -1
  · rw [if_pos hm]; exact hm
  · rw [if_neg hm]; simp

theorem count_eq (s : List UInt8) : strings_Count s [47] = some ((s.count 47 : Nat) : Int) := by
  unfold strings_Count
  have e : Nat.toUInt8 (Int.toNat (((List.getD [(47 : UInt8)] (Int.toNat (0 : Int)) 0).toNat : Nat) : Int)) = 47 := by decide
  simp only [e, List.length_cons, List.length_nil]
  simp

theorem idx_none (c : Int) : ∀ (l : List UInt8) (i : Int), (∀ x ∈ l, (x.toNat : Int) ≠ c) → idxByte c l i = -1 := by
  intro l
  induction l with
  | nil => intro i _; rfl
  | cons x r ih =>
    intro i h
    simp only [idxByte]
    rw [if_neg (h x (by simp)), ih _ (fun y hy => h y (by simp [hy]))]

theorem idx_split (s : List UInt8) (h : 0 < s.count 47) : ∃ (m : Nat), idxByte 47 s 0 = (m : Int) ∧ m < s.length ∧ (s.drop (m + 1)).count 47 + 1 = s.count 47 ∧ ∀ acc, pieces s acc = (acc ++ s.take m) :: pieces (s.drop (m + 1)) [] := by
  have key : ∀ (s : List UInt8) (i : Nat), 0 < s.count 47 → ∃ (m : Nat), idxByte 47 s (i : Int) = ((i + m : Nat) : Int) ∧ m < s.length ∧ (s.drop (m + 1)).count 47 + 1 = s.count 47 ∧ ∀ acc, pieces s acc = (acc ++ s.take m) :: pieces (s.drop (m + 1)) [] := by
    intro s
    induction s with
    | nil => intro i h; simp at h
    | cons c r ih =>
      intro i h
      by_cases hc : c = 47
      · subst hc
        refine ⟨0, ?_, by simp, by simp, fun acc => by simp [pieces]⟩
        simp only [idxByte]
        rw [if_pos (by decide)]
        simp
      · have hc' : ¬ ((c.toNat : Int) = 47) := by rw [u8_47]; exact hc
        rw [List.count_cons_of_ne (by simpa using hc)] at h
        obtain ⟨m, h1, h2, h3, h4⟩ := ih (i + 1) h
        refine ⟨m + 1, ?_, by simp; omega, ?_, fun acc => ?_⟩
        · simp only [idxByte]
          rw [if_neg hc', show ((i : Int) + 1) = ((i + 1 : Nat) : Int) by omega, h1]
          congr 1; omega
        · rw [List.count_cons_of_ne (by simpa using hc)]
          simpa using h3
        · simp only [pieces, hc, if_false, h4 (acc ++ [c])]
          simp
  obtain ⟨m, h1, h2, h3, h4⟩ := key s 0 h
  exact ⟨m, by simpa using h1, h2, h3, h4⟩

theorem pieces_none : ∀ (s acc : List UInt8), s.count 47 = 0 → pieces s acc = [acc ++ s] := by
  intro s
  induction s with
  | nil => intro acc _; simp [pieces]
  | cons c r ih =>
    intro acc h
    have hc : c ≠ 47 := by rintro rfl; simp at h
    rw [List.count_cons_of_ne (by simpa using hc)] at h
    simp only [pieces, hc, if_false, ih _ h]
    simp

theorem set_take {α : Type} (a : List α) (i : Nat) (v : α) (h : i < a.length) : (a.set i v).take (i + 1) = a.take i ++ [v] := by
  rw [List.take_add_one, List.getElem?_set_self h, List.take_set_of_le (Nat.le_refl _)]
  rfl

theorem split_loop (n : Nat) (hn : n < 1000000) : ∀ (j i : Nat) (s : List UInt8) (a : List (List UInt8)), n - i = j → i ≤ n → s.count 47 = n - i → s.length < 1000000 → a.length = n + 1 →
    ∃ s' a', iter (strings_genSplit_b0 [47] 0 (n : Int)) (s, (i : Int), a) = some (s', (n : Int), a') ∧ a'.length = n + 1 ∧ a'.take n ++ [s'] = a.take i ++ pieces s [] := by
  intro j
  induction j with
  | zero =>
    intro i s a hj hi hc hs ha
    have e : i = n := by omega
    subst e
    refine ⟨s, a, ?_, ha, ?_⟩
    · rw [iter_inr (t := (s, (i : Int), a))]
      unfold strings_genSplit_b0
      simp
    · rw [pieces_none s [] (by omega)]
      simp
  | succ j ih =>
    intro i s a hj hi hc hs ha
    obtain ⟨m, h1, h2, h3, h4⟩ := idx_split s (by omega)
    obtain ⟨s', a', g1, g2, g3⟩ := ih (i + 1) (s.drop (m + 1)) (a.set i (s.take m)) (by omega) (by omega) (by omega) (by simp; omega) (by simpa using ha)
    refine ⟨s', a', ?_, g2, ?_⟩
    · rw [iter_inl (s' := (s.drop (m + 1), ((i + 1 : Nat) : Int), a.set i (s.take m))), g1]
      unfold strings_genSplit_b0
      have e1 : IntKind.wrap IntKind.i64 ((m : Int) + 0) = (m : Int) := by rw [w64 (by omega) (by omega)]; omega
      have e2 : IntKind.wrap IntKind.i64 ((m : Int) + ((([47] : List UInt8).length : Nat) : Int)) = ((m + 1 : Nat) : Int) := by rw [w64 (by simp; omega) (by simp; omega)]; simp
      have e3 : IntKind.wrap IntKind.i64 ((i : Int) + 1) = ((i + 1 : Nat) : Int) := by rw [w64 (by omega) (by omega)]; omega
      simp only [natlt, show i < n by omega, decide_true, cond_true, index_eq s (by omega), h1, Option.bind_some, show ¬ ((m : Int) < 0) by omega, decide_false, cond_false, e1, e2, e3, Int.toNat_natCast, Nat.zero_add, List.take_length]
      rw [if_pos (by omega), if_pos (by omega), if_pos (by omega), if_pos (by omega)]
      rfl
    · rw [g3, set_take a i _ (by omega), h4 []]
      simp

theorem genSplit_eq (s : List UInt8) (hs : s.length < 1000000) : strings_genSplit s [47] 0 (-1) = some (pieces s []) := by
  unfold strings_genSplit
  have hcl : s.count 47 ≤ s.length := List.count_le_length
  have e1 : IntKind.wrap IntKind.i64 (((s.count 47 : Nat) : Int) + 1) = ((s.count 47 + 1 : Nat) : Int) := by rw [w64 (by omega) (by omega)]; omega
  have e2 : IntKind.wrap IntKind.i64 ((s.length : Int) + 1) = ((s.length + 1 : Nat) : Int) := by rw [w64 (by omega) (by omega)]; omega
  have e3 : (if ((s.length + 1 : Nat) : Int) < ((s.count 47 + 1 : Nat) : Int) then ((s.length + 1 : Nat) : Int) else ((s.count 47 + 1 : Nat) : Int)) = ((s.count 47 + 1 : Nat) : Int) := by rw [if_neg (by omega)]
  have e4 : IntKind.wrap IntKind.i64 (((s.count 47 + 1 : Nat) : Int) - 1) = ((s.count 47 : Nat) : Int) := by rw [w64 (by omega) (by omega)]; omega
  have e5 : IntKind.wrap IntKind.i64 (((s.count 47 : Nat) : Int) + 1) = ((s.count 47 + 1 : Nat) : Int) := e1
  obtain ⟨s', a', h1, h2, h3⟩ := split_loop (s.count 47) (by omega) (s.count 47) 0 s (List.replicate (s.count 47 + 1) []) (by omega) (by omega) (by omega) hs (by simp)
  have hne : ¬ (([47] : List UInt8) = []) := by simp
  simp only [show ¬ ((-1 : Int) = 0) by omega, decide_false, cond_false, hne, show ((-1 : Int) < 0) by omega, decide_true, cond_true, count_eq, Option.bind_some, e1, e2, e3, e4, Int.toNat_natCast]
  have h1' : iter (strings_genSplit_b0 [47] 0 ((s.count 47 : Nat) : Int)) (s, (0 : Int), List.replicate (s.count 47 + 1) []) = some (s', ((s.count 47 : Nat) : Int), a') := h1
  rw [if_pos (by omega), h1']
  simp only [Option.bind_some, Int.toNat_natCast, Nat.zero_add, e5, List.length_set]
  rw [if_pos (by omega), if_pos (by omega), if_pos (by omega), set_take a' _ _ (by omega), h3]
  simp

theorem keep_loop (l : List (List UInt8)) (hl : l.length < 1000001) : ∀ (r : List (List UInt8)) (k : Nat) (out : List (List UInt8)), l.drop k = r → out.length ≤ k →
    iter (path_keep_string__b0 l (l.length : Int)) ((k : Int), out) = some (out ++ r.filter full) := by
  intro r
  induction r with
  | nil =>
    intro k out h ho
    have := drop_nil h
    rw [iter_inr (t := out)]
    · simp
    · unfold path_keep_string__b0
      simp [show ¬ k < l.length by omega]
  | cons x r ih =>
    intro k out h ho
    obtain ⟨g1, g2, g3⟩ := drop_cons h []
    rw [iter_inl (s' := (((k + 1 : Nat) : Int), if full x = true then out ++ [x] else out)), ih (k + 1) _ g3 (by split <;> first | omega | (rw [List.length_append]; simp; omega))]
    · simp only [List.filter_cons]
      split <;> simp
    · unfold path_keep_string__b0 path_Parts_1
      simp only [natlt, g1, decide_true, cond_true, Int.natCast_nonneg, true_and, if_true, Int.toNat_natCast, g2, kplus g1 (by omega), Option.bind_some, List.drop_zero, List.length_cons, List.length_nil]
      by_cases hx : x = []
      · simp [hx, full]
      · simp only [full, hx, decide_false, Bool.not_false, cond_true, if_true]
        rw [if_pos (by omega)]

theorem pieces_len : ∀ (s acc : List UInt8), (pieces s acc).length ≤ s.length + 1 := by
  intro s
  induction s with
  | nil => intro acc; simp [pieces]
  | cons c r ih =>
    intro acc
    simp only [pieces]
    split
    · have := ih []; simp; omega
    · have := ih (acc ++ [c]); simp; omega

theorem parts_eq (s : List UInt8) (hs : s.length < 1000000) : path_Parts s = some (partsV s) := by
  unfold path_Parts strings_Split path_keep_string_
  have := pieces_len s []
  rw [genSplit_eq s hs]
  simp only [Option.bind_some, List.drop_zero]
  rw [show ((0 : Int)) = ((0 : Nat) : Int) from rfl, keep_loop (pieces s []) (by omega) _ 0 [] rfl (by simp)]
  simp [partsV]

end Go.Cellar
