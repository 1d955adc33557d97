/- Lines, by plain lists. No condition. -/
import Derived.Test.YtjdjmbogopadaaaGreatDoorPl12c
set_option linter.unusedSimpArgs false
set_option linter.unusedVariables false
namespace Go.Cellar
open Go

/-- The parts between slashes, the first one begun already. -/
def pieces_L : List UInt8 → List UInt8 → List (List UInt8)
  | [], acc => [acc]
  | c :: r, acc => if c = 10 then acc :: pieces_L r [] else pieces_L r (acc ++ [c])

theorem u8_L (c : UInt8) : ((c.toNat : Int) = 10) = (c = 10) := propext ⟨fun h => UInt8.toNat_inj.mp (by have : (10 : UInt8).toNat = 10 := rfl; omega), fun h => by subst h; rfl⟩

theorem index_eq_L (s : List UInt8) (hs : s.length < 4294967281) : strings_Index s [10] = some (idxByte 10 s 0) := by
  unfold strings_Index
  rw [if_pos hs]
  have h := lidx 10 s 0
  have h0 : idxByte ((10 : UInt8).toNat : Int) s ((0 : Nat) : Int) = idxByte 10 s 0 := rfl
  rw [← h0, h]
  congr 1
  by_cases hm : Lib.index s [10] = -1
  · rw [if_pos hm]; exact hm
  · rw [if_neg hm]; simp

theorem count_eq_L (s : List UInt8) : strings_Count s [10] = some ((s.count 10 : Nat) : Int) := by
  unfold strings_Count
  have e : Nat.toUInt8 (Int.toNat (((List.getD [(10 : UInt8)] (Int.toNat (0 : Int)) 0).toNat : Nat) : Int)) = 10 := by decide
  simp only [e, List.length_cons, List.length_nil]
  simp

theorem idx_split_L (s : List UInt8) (h : 0 < s.count 10) : ∃ (m : Nat), idxByte 10 s 0 = (m : Int) ∧ m < s.length ∧ (s.drop (m + 1)).count 10 + 1 = s.count 10 ∧ ∀ acc, pieces_L s acc = (acc ++ s.take m) :: pieces_L (s.drop (m + 1)) [] := by
  have key : ∀ (s : List UInt8) (i : Nat), 0 < s.count 10 → ∃ (m : Nat), idxByte 10 s (i : Int) = ((i + m : Nat) : Int) ∧ m < s.length ∧ (s.drop (m + 1)).count 10 + 1 = s.count 10 ∧ ∀ acc, pieces_L s acc = (acc ++ s.take m) :: pieces_L (s.drop (m + 1)) [] := by
    intro s
    induction s with
    | nil => intro i h; simp at h
    | cons c r ih =>
      intro i h
      by_cases hc : c = 10
      · subst hc
        refine ⟨0, ?_, by simp, by simp, fun acc => by simp [pieces_L]⟩
        simp only [idxByte]
        rw [if_pos (by decide)]
        simp
      · have hc' : ¬ ((c.toNat : Int) = 10) := by rw [u8_L]; exact hc
        rw [List.count_cons_of_ne (by simpa using hc)] at h
        obtain ⟨m, h1, h2, h3, h4⟩ := ih (i + 1) h
        refine ⟨m + 1, ?_, by simp; omega, ?_, fun acc => ?_⟩
        · simp only [idxByte]
          rw [if_neg hc', show ((i : Int) + 1) = ((i + 1 : Nat) : Int) by omega, h1]
          congr 1; omega
        · rw [List.count_cons_of_ne (by simpa using hc)]
          simpa using h3
        · simp only [pieces_L, hc, if_false, h4 (acc ++ [c])]
          simp
  obtain ⟨m, h1, h2, h3, h4⟩ := key s 0 h
  exact ⟨m, by simpa using h1, h2, h3, h4⟩

theorem pieces_none_L : ∀ (s acc : List UInt8), s.count 10 = 0 → pieces_L s acc = [acc ++ s] := by
  intro s
  induction s with
  | nil => intro acc _; simp [pieces_L]
  | cons c r ih =>
    intro acc h
    have hc : c ≠ 10 := by rintro rfl; simp at h
    rw [List.count_cons_of_ne (by simpa using hc)] at h
    simp only [pieces_L, hc, if_false, ih _ h]
    simp

theorem split_loop_L (n : Nat) (hn : n < 1000000) : ∀ (j i : Nat) (s : List UInt8) (a : List (List UInt8)), n - i = j → i ≤ n → s.count 10 = n - i → s.length < 1000000 → a.length = n + 1 →
    ∃ s' a', iter (strings_genSplit_b0 [10] 0 (n : Int)) (s, (i : Int), a) = some (s', (n : Int), a') ∧ a'.length = n + 1 ∧ a'.take n ++ [s'] = a.take i ++ pieces_L s [] := by
  intro j
  induction j with
  | zero =>
    intro i s a hj hi hc hs ha
    have e : i = n := by omega
    subst e
    refine ⟨s, a, ?_, ha, ?_⟩
    · rw [iter_inr (t := (s, (i : Int), a))]
      unfold strings_genSplit_b0
      simp
    · rw [pieces_none_L s [] (by omega)]
      simp
  | succ j ih =>
    intro i s a hj hi hc hs ha
    obtain ⟨m, h1, h2, h3, h4⟩ := idx_split_L s (by omega)
    obtain ⟨s', a', g1, g2, g3⟩ := ih (i + 1) (s.drop (m + 1)) (a.set i (s.take m)) (by omega) (by omega) (by omega) (by simp; omega) (by simpa using ha)
    refine ⟨s', a', ?_, g2, ?_⟩
    · rw [iter_inl (s' := (s.drop (m + 1), ((i + 1 : Nat) : Int), a.set i (s.take m))), g1]
      unfold strings_genSplit_b0
      have e1 : IntKind.wrap IntKind.i64 ((m : Int) + 0) = (m : Int) := by rw [w64 (by omega) (by omega)]; omega
      have e2 : IntKind.wrap IntKind.i64 ((m : Int) + ((([10] : List UInt8).length : Nat) : Int)) = ((m + 1 : Nat) : Int) := by rw [w64 (by simp; omega) (by simp; omega)]; simp
      have e3 : IntKind.wrap IntKind.i64 ((i : Int) + 1) = ((i + 1 : Nat) : Int) := by rw [w64 (by omega) (by omega)]; omega
      simp only [natlt, show i < n by omega, decide_true, cond_true, index_eq_L s (by omega), h1, Option.bind_some, show ¬ ((m : Int) < 0) by omega, decide_false, cond_false, e1, e2, e3, Int.toNat_natCast, Nat.zero_add, List.take_length]
      rw [if_pos (by omega), if_pos (by omega), if_pos (by omega), if_pos (by omega)]
      rfl
    · rw [g3, set_take a i _ (by omega), h4 []]
      simp

theorem genSplit_eq_L (s : List UInt8) (hs : s.length < 1000000) : strings_genSplit s [10] 0 (-1) = some (pieces_L s []) := by
  unfold strings_genSplit
  have hcl : s.count 10 ≤ s.length := List.count_le_length
  have e1 : IntKind.wrap IntKind.i64 (((s.count 10 : Nat) : Int) + 1) = ((s.count 10 + 1 : Nat) : Int) := by rw [w64 (by omega) (by omega)]; omega
  have e2 : IntKind.wrap IntKind.i64 ((s.length : Int) + 1) = ((s.length + 1 : Nat) : Int) := by rw [w64 (by omega) (by omega)]; omega
  have e3 : (if ((s.length + 1 : Nat) : Int) < ((s.count 10 + 1 : Nat) : Int) then ((s.length + 1 : Nat) : Int) else ((s.count 10 + 1 : Nat) : Int)) = ((s.count 10 + 1 : Nat) : Int) := by rw [if_neg (by omega)]
  have e4 : IntKind.wrap IntKind.i64 (((s.count 10 + 1 : Nat) : Int) - 1) = ((s.count 10 : Nat) : Int) := by rw [w64 (by omega) (by omega)]; omega
  have e5 : IntKind.wrap IntKind.i64 (((s.count 10 : Nat) : Int) + 1) = ((s.count 10 + 1 : Nat) : Int) := e1
  obtain ⟨s', a', h1, h2, h3⟩ := split_loop_L (s.count 10) (by omega) (s.count 10) 0 s (List.replicate (s.count 10 + 1) []) (by omega) (by omega) (by omega) hs (by simp)
  have hne : ¬ (([10] : List UInt8) = []) := by simp
  simp only [show ¬ ((-1 : Int) = 0) by omega, decide_false, cond_false, hne, show ((-1 : Int) < 0) by omega, decide_true, cond_true, count_eq_L, Option.bind_some, e1, e2, e3, e4, Int.toNat_natCast]
  have h1' : iter (strings_genSplit_b0 [10] 0 ((s.count 10 : Nat) : Int)) (s, (0 : Int), List.replicate (s.count 10 + 1) []) = some (s', ((s.count 10 : Nat) : Int), a') := h1
  rw [if_pos (by omega), h1']
  simp only [Option.bind_some, Int.toNat_natCast, Nat.zero_add, e5, List.length_set]
  rw [if_pos (by omega), if_pos (by omega), if_pos (by omega), set_take a' _ _ (by omega), h3]
  simp

def endsSl_L (s : List UInt8) : Bool := decide (s.getLast? = some 10)

theorem endsSl_at_L {s : List UInt8} (h : 1 ≤ s.length) : endsSl_L s = decide ((s.getD (s.length - 1) 0) = 10) := by
  unfold endsSl_L
  rw [List.getLast?_eq_getElem?, List.getD_eq_getElem?_getD, List.getElem?_eq_getElem (show s.length - 1 < s.length by omega)]
  simp

theorem hasSuffix_eq_L (s : List UInt8) (hs : s.length < 4611686018427387904) : strings_HasSuffix s [10] = some (endsSl_L s) := by
  unfold strings_HasSuffix stringslite_HasSuffix
  by_cases h : 1 ≤ s.length
  · have hd : decide (((([10] : List UInt8).length : Nat) : Int) ≤ (s.length : Int)) = true := by simp; omega
    have ew : IntKind.wrap IntKind.i64 ((s.length : Int) - ((([10] : List UInt8).length : Nat) : Int)) = ((s.length - 1 : Nat) : Int) := by
      rw [w64 (by simp; omega) (by simp; omega)]; simp; omega
    simp only [hd, cond_true, ew, Int.toNat_natCast, List.take_length, drop_last h, endsSl_at_L h]
    rw [if_pos (by omega)]
    simp
  · have h0 : s = [] := List.eq_nil_of_length_eq_zero (by omega)
    subst h0
    rfl

theorem pieces_L_len : ∀ (s acc : List UInt8), (pieces_L s acc).length ≤ s.length + 1 := by
  intro s
  induction s with
  | nil => intro acc; simp [pieces_L]
  | cons c r ih =>
    intro acc
    simp only [pieces_L]
    split
    · have := ih []; simp; omega
    · have := ih (acc ++ [c]); simp; omega

end Go.Cellar
