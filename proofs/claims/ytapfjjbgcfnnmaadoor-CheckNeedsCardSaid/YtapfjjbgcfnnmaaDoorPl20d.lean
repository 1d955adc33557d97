/- Both parses of a version are one; versions compared. No condition. -/
import Derived.Test.YtapfjjbgcfnnmaaDoorPl20c
set_option linter.unusedSimpArgs false
set_option linter.unusedVariables false
set_option maxRecDepth 4000
namespace Go.Cellar
open Go

def onlyP (s marks : List UInt8) : Bool := s.all fun c => isD c || isL c || decide (0 ≤ idxByte c.toNat marks 0)

theorem idx_lt (c : Int) : ∀ (l : List UInt8) (i : Int), 0 ≤ i → idxByte c l i < i + l.length := by
  intro l
  induction l with
  | nil => intro i hi; simp [idxByte]; omega
  | cons x r ih =>
    intro i hi
    simp only [idxByte, List.length_cons]
    split
    · omega
    · have := ih (i + 1) (by omega); omega

theorem last_lt (c : Int) : ∀ (l : List UInt8) (i o : Int), o < i → lastIdx c l i o < i + l.length := by
  intro l
  induction l with
  | nil => intro i o h; simpa [lastIdx] using h
  | cons x r ih =>
    intro i o h
    simp only [lastIdx, List.length_cons]
    have := ih (i + 1) (if (x.toNat : Int) = c then i else o) (by split <;> omega)
    omega

theorem only_loop (s marks : List UInt8) (B : Int → Option (Int ⊕ (Unit ⊕ Unit)))
    (hend : ∀ k : Nat, s.length ≤ k → B (k : Int) = some (.inr (.inr ())))
    (hgo : ∀ (k : Nat) (c : UInt8) (r : List UInt8), s.drop k = c :: r → B (k : Int) = some (if (isD c || isL c || decide (0 ≤ idxByte c.toNat marks 0)) = true then .inl ((k + 1 : Nat) : Int) else .inr (.inl ()))) :
    ∀ (r : List UInt8) (k : Nat), s.drop k = r → iter B (k : Int) = some (if onlyP r marks = true then .inr () else .inl ()) := by
  intro r
  induction r with
  | nil =>
    intro k h
    rw [iter_inr (hend k (drop_nil h))]
    rfl
  | cons c r ih =>
    intro k h
    have hb := hgo k c r h
    by_cases hc : (isD c || isL c || decide (0 ≤ idxByte c.toNat marks 0)) = true
    · rw [if_pos hc] at hb
      rw [iter_inl hb, ih (k + 1) (drop_cons h 0).2.2]
      have : onlyP (c :: r) marks = onlyP r marks := by
        unfold onlyP
        rw [List.all_cons, hc, Bool.true_and]
      rw [this]
    · rw [if_neg hc] at hb
      rw [iter_inr hb]
      have : onlyP (c :: r) marks = false := by
        unfold onlyP
        rw [List.all_cons]
        simp only [Bool.not_eq_true] at hc
        rw [hc, Bool.false_and]
      rw [this]
      rfl

theorem vonly_eq (s marks : List UInt8) (hs : s.length < 4611686018427387904) : version_only s marks = some (onlyP s marks) := by
  unfold version_only
  have := only_loop s marks (version_only_b0 s marks (s.length : Int)) (fun k hk => by
      unfold version_only_b0
      simp [show ¬ k < s.length by omega]) (fun k c r h => by
      unfold version_only_b0
      obtain ⟨g1, g2, _⟩ := drop_cons h 0
      have e : IntKind.wrap IntKind.i64 ((k : Int) + 1) = ((k + 1 : Nat) : Int) := by rw [w64 (by omega) (by omega)]; omega
      have hc := u8lt c
      simp only [natlt, g1, decide_true, cond_true, Int.natCast_nonneg, true_and, if_true, Int.toNat_natCast, g2, digit_eq, letter_eq, IndexByte5 marks (c.toNat : Int) (by omega) (by omega), Option.bind_some, e]
      by_cases h1 : isD c = true
      · simp [h1]
      · by_cases h2 : isL c = true
        · simp [h1, h2]
        · by_cases h3 : 0 ≤ idxByte c.toNat marks 0
          · simp [h1, h2, h3, show ¬ idxByte c.toNat marks 0 < 0 by omega]
          · simp [h1, h2, h3, show idxByte c.toNat marks 0 < 0 by omega]) s 0 rfl
  rw [show ((0 : Int)) = ((0 : Nat) : Int) from rfl, this]
  cases onlyP s marks <;> rfl

theorem ronly_eq (s marks : List UInt8) (hs : s.length < 4611686018427387904) (hm : marks.length < 4611686018427387904) : cellarerref05_only s marks = some (onlyP s marks) := by
  unfold cellarerref05_only
  have := only_loop s marks (cellarerref05_only_b0 s marks) (fun k hk => by
      unfold cellarerref05_only_b0
      simp [show ¬ k < s.length by omega]) (fun k c r h => by
      unfold cellarerref05_only_b0
      obtain ⟨g1, g2, _⟩ := drop_cons h 0
      have e : IntKind.wrap IntKind.i64 ((k : Int) + 1) = ((k + 1 : Nat) : Int) := by rw [w64 (by omega) (by omega)]; omega
      have hc := u8lt c
      simp only [natlt, g1, decide_true, cond_true, Int.natCast_nonneg, true_and, if_true, Int.toNat_natCast, g2, Digit_eq, Letter_eq, at_first marks (c.toNat : Int) hm, Option.bind_some, e]
      by_cases h1 : isD c = true
      · simp [h1]
      · by_cases h2 : isL c = true
        · simp [h1, h2]
        · by_cases h3 : 0 ≤ idxByte c.toNat marks 0
          · simp [h1, h2, h3, show ¬ idxByte c.toNat marks 0 < 0 by omega]
          · simp [h1, h2, h3, show idxByte c.toNat marks 0 < 0 by omega]) s 0 rfl
  rw [show ((0 : Int)) = ((0 : Nat) : Int) from rfl, this]
  cases onlyP s marks <;> rfl

def dval (l : List UInt8) (n : Nat) : Nat := l.foldl (fun n c => n * 10 + (c.toNat - 48)) n

theorem isD_range {c : UInt8} (h : isD c = true) : 48 ≤ c.toNat ∧ c.toNat ≤ 57 := by
  simpa [isD] using h

theorem dval_bound : ∀ (l : List UInt8) (n k : Nat), l.all isD = true → n < 10 ^ k → dval l n < 10 ^ (k + l.length) := by
  intro l
  induction l with
  | nil => intro n k _ h; exact h
  | cons c r ih =>
    intro n k h hn
    rw [List.all_cons, Bool.and_eq_true] at h
    have := isD_range h.1
    have h2 := ih (n * 10 + (c.toNat - 48)) (k + 1) h.2 (by rw [Nat.pow_succ]; omega)
    rw [show k + 1 + r.length = k + (c :: r).length by simp; omega] at h2
    exact h2

theorem epoch_loop (s : List UInt8) (hs : s.length ≤ 9) : ∀ (r : List UInt8) (k n : Nat), s.drop k = r → k ≤ s.length → n < 10 ^ k →
    iter (version_epoch_b0 s (s.length : Int)) ((n : Int), (k : Int)) = some (if r.all isD = true then .inr ((dval r n : Nat) : Int) else .inl ()) := by
  intro r
  induction r with
  | nil =>
    intro k n h hk hn
    have := drop_nil h
    rw [iter_inr (t := .inr (n : Int))]
    · simp [dval]
    · unfold version_epoch_b0
      simp [show ¬ k < s.length by omega]
  | cons c r ih =>
    intro k n h hk hn
    obtain ⟨g1, g2, g3⟩ := drop_cons h 0
    have hp : (10 : Nat) ^ k ≤ 10 ^ 9 := Nat.pow_le_pow_right (by omega) (by omega)
    by_cases hc : isD c = true
    · have := isD_range hc
      rw [iter_inl (s' := (((n * 10 + (c.toNat - 48) : Nat) : Int), ((k + 1 : Nat) : Int))), ih (k + 1) _ g3 (by omega) (by rw [Nat.pow_succ]; omega)]
      · simp [List.all_cons, hc, dval]
      · unfold version_epoch_b0
        simp only [natlt, g1, decide_true, cond_true, Int.natCast_nonneg, true_and, if_true, Int.toNat_natCast, g2, digit_eq, hc, Option.bind_some, Bool.not_true, cond_false]
        have h1 := u8lt c
        rw [wu8 (by omega) (by omega), w64 (n := (c.toNat : Int) - 48) (by omega) (by omega), w64 (n := (n : Int) * 10) (by omega) (by omega), w64 (n := (n : Int) * 10 + ((c.toNat : Int) - 48)) (by omega) (by omega), w64 (n := (k : Int) + 1) (by omega) (by omega)]
        have e1 : (n : Int) * 10 + ((c.toNat : Int) - 48) = ((n * 10 + (c.toNat - 48) : Nat) : Int) := by omega
        have e2 : (k : Int) + 1 = ((k + 1 : Nat) : Int) := by omega
        rw [e1, e2]
    · rw [iter_inr (t := .inl ())]
      · simp [List.all_cons, hc]
      · unfold version_epoch_b0
        simp only [natlt, g1, decide_true, cond_true, Int.natCast_nonneg, true_and, if_true, Int.toNat_natCast, g2, digit_eq, hc, Option.bind_some]
        simp

theorem epoch_eq (s : List UInt8) (hs : s.length < 4611686018427387904) : version_epoch s = some (if s.length < 1 ∨ 9 < s.length then (0, false) else if s.all isD = true then (((dval s 0 : Nat) : Int), true) else (0, false)) := by
  unfold version_epoch
  by_cases h1 : s.length < 1
  · simp [h1, show (s.length : Int) < 1 by omega]
  · by_cases h2 : 9 < s.length
    · simp [h1, h2, show ¬ (s.length : Int) < 1 by omega, show (9 : Int) < (s.length : Int) by omega]
    · have := epoch_loop s (by omega) s 0 0 rfl (by omega) (by simp)
      simp only [show ¬ (s.length : Int) < 1 by omega, show ¬ (9 : Int) < (s.length : Int) by omega, decide_false, cond_false, Option.bind_some, Sum.elim_inr]
      rw [show ((0 : Int)) = ((0 : Nat) : Int) from rfl, this]
      by_cases h3 : s.all isD = true
      · rw [if_pos h3, if_neg (by omega), if_pos h3]; rfl
      · rw [if_neg h3, if_neg (by omega), if_neg h3]; rfl

theorem refEpoch_loop (s : List UInt8) (m : Nat) (hm : m ≤ 9) (hs : m ≤ s.length) : ∀ (r : List UInt8) (k n : Nat), (s.take m).drop k = r → k ≤ m → n < 10 ^ k →
    iter (cellarerref05_Parse_b0 s (m : Int)) ((k : Int), (n : Int)) = some (if r.all isD = true then .inr ((dval r n : Nat) : Int) else .inl ()) := by
  intro r
  induction r with
  | nil =>
    intro k n h hk hn
    have := drop_nil h
    rw [List.length_take] at this
    rw [iter_inr (t := .inr (n : Int))]
    · simp [dval]
    · unfold cellarerref05_Parse_b0
      simp [show ¬ k < m by omega]
  | cons c r ih =>
    intro k n h hk hn
    obtain ⟨g1, g2, g3⟩ := drop_cons h 0
    rw [List.length_take] at g1
    have g4 : s.getD k 0 = c := by
      rw [← g2, List.getD_eq_getElem?_getD, List.getD_eq_getElem?_getD, List.getElem?_take_of_lt (by omega)]
    have hp : (10 : Nat) ^ k ≤ 10 ^ 9 := Nat.pow_le_pow_right (by omega) (by omega)
    by_cases hc : isD c = true
    · have := isD_range hc
      rw [iter_inl (s' := (((k + 1 : Nat) : Int), ((n * 10 + (c.toNat - 48) : Nat) : Int))), ih (k + 1) _ g3 (by omega) (by rw [Nat.pow_succ]; omega)]
      · simp [List.all_cons, hc, dval]
      · unfold cellarerref05_Parse_b0
        simp only [natlt, show k < m by omega, show k < s.length by omega, decide_true, cond_true, Int.natCast_nonneg, true_and, if_true, Int.toNat_natCast, g4, Digit_eq, hc, Option.bind_some, Bool.not_true, cond_false]
        have h1 := u8lt c
        rw [w64 (n := (c.toNat : Int)) (by omega) (by omega), w64 (n := (10 : Int) * (n : Int)) (by omega) (by omega), w64 (n := (10 : Int) * (n : Int) + (c.toNat : Int)) (by omega) (by omega), w64 (n := (10 : Int) * (n : Int) + (c.toNat : Int) - 48) (by omega) (by omega), w64 (n := (k : Int) + 1) (by omega) (by omega)]
        have e1 : (10 : Int) * (n : Int) + (c.toNat : Int) - 48 = ((n * 10 + (c.toNat - 48) : Nat) : Int) := by omega
        have e2 : (k : Int) + 1 = ((k + 1 : Nat) : Int) := by omega
        rw [e1, e2]
    · rw [iter_inr (t := .inl ())]
      · simp [List.all_cons, hc]
      · unfold cellarerref05_Parse_b0
        simp only [natlt, show k < m by omega, show k < s.length by omega, decide_true, cond_true, Int.natCast_nonneg, true_and, if_true, Int.toNat_natCast, g4, Digit_eq, hc, Option.bind_some]
        simp

def marks4 : List UInt8 := [46, 43, 45, 126]

def marks5 : List UInt8 := [46, 43, 45, 126, 58]

def marksR : List UInt8 := [46, 43, 126]

def front (s : List UInt8) : Option (List UInt8 × List UInt8 × Nat) :=
  let at_ := idxByte 58 s 0
  if 0 ≤ at_ then
    let e := s.take at_.toNat
    if ¬ (e.length < 1 ∨ 9 < e.length) ∧ e.all isD = true then some (marks5, s.drop (at_.toNat + 1), dval e 0) else none
  else some (marks4, s, 0)

def cutHy (rest : List UInt8) : List UInt8 × List UInt8 :=
  let h := lastIdx 45 rest 0 (-1)
  if 0 ≤ h then (rest.take h.toNat, rest.drop (h.toNat + 1)) else (rest, [48])

def okUR (marks u r : List UInt8) : Bool :=
  match u with
  | [] => false
  | c :: _ => isD c && onlyP u marks && !decide (r = []) && onlyP r marksR

def parseV (s : List UInt8) : Int × List UInt8 × List UInt8 × Int :=
  if 80 < s.length then (0, [], [], 8) else
  match front s with
  | none => (0, [], [], 2)
  | some (marks, rest, n) => if okUR marks (cutHy rest).1 (cutHy rest).2 = true then ((n : Int), (cutHy rest).1, (cutHy rest).2, 0) else (0, [], [], 2)

theorem cutHy_len (rest : List UInt8) : (cutHy rest).1.length ≤ rest.length ∧ (cutHy rest).2.length ≤ rest.length + 1 := by
  unfold cutHy
  dsimp only
  split
  · simp; omega
  · simp

/-- What is behind the front, in the program's own words. -/
theorem vback_eq (marks rest : List UInt8) (n : Nat) (hr : rest.length < 1000) :
    Option.bind (α := List UInt8 × List UInt8) (
        (strings_LastIndexByte rest ((45 : Int))).bind fun a_57 =>
          bif Decidable.decide ((0 : Int) ≤ a_57) then
            if (0 : Int) ≤ (0 : Int) ∧ (0 : Int) ≤ a_57 ∧ a_57 ≤ (↑(List.length rest) : Int) then
              if (0 : Int) ≤ IntKind.wrap IntKind.i64 (a_57 + (1 : Int)) ∧ IntKind.wrap IntKind.i64 (a_57 + (1 : Int)) ≤ (↑(List.length rest) : Int) ∧ (↑(List.length rest) : Int) ≤ (↑(List.length rest) : Int) then
                some (List.drop (Int.toNat (0 : Int)) (List.take (Int.toNat a_57) rest), List.drop (Int.toNat (IntKind.wrap IntKind.i64 (a_57 + (1 : Int)))) (List.take (Int.toNat (↑(List.length rest) : Int)) rest))
              else none
            else none
          else
            some (rest, [(48 : UInt8)])) (fun t_60 =>
        bif Decidable.decide (Prod.fst t_60 = []) then
          some ((0 : Int), ([] : List UInt8), ([] : List UInt8), (2 : Int))
        else
          if (0 : Int) ≤ (0 : Int) ∧ (0 : Int) < (↑(List.length (Prod.fst t_60)) : Int) then
            (version_digit ((↑(UInt8.toNat (List.getD (Prod.fst t_60) (Int.toNat (0 : Int)) (0 : UInt8))) : Int))).bind fun a_61 =>
              bif !a_61 then
                some ((0 : Int), [], [], (2 : Int))
              else
                (version_only (Prod.fst t_60) marks).bind fun a_81 =>
                  bif !a_81 then
                    some ((0 : Int), [], [], (2 : Int))
                  else
                    bif Decidable.decide (Prod.snd t_60 = []) then
                      some ((0 : Int), [], [], (2 : Int))
                    else
                      (version_only (Prod.snd t_60) ([(46 : UInt8), (43 : UInt8), (126 : UInt8)])).bind fun a_82 =>
                        bif !a_82 then
                          some ((0 : Int), [], [], (2 : Int))
                        else
                          some ((n : Int), Prod.fst t_60, Prod.snd t_60, (0 : Int))
          else none) =
    some (if okUR marks (cutHy rest).1 (cutHy rest).2 = true then ((n : Int), (cutHy rest).1, (cutHy rest).2, 0) else (0, [], [], 2)) := by
  have hl := last_lt 45 rest 0 (-1) (by omega)
  have hcut : ((strings_LastIndexByte rest ((45 : Int))).bind fun a_57 =>
          bif Decidable.decide ((0 : Int) ≤ a_57) then
            if (0 : Int) ≤ (0 : Int) ∧ (0 : Int) ≤ a_57 ∧ a_57 ≤ (↑(List.length rest) : Int) then
              if (0 : Int) ≤ IntKind.wrap IntKind.i64 (a_57 + (1 : Int)) ∧ IntKind.wrap IntKind.i64 (a_57 + (1 : Int)) ≤ (↑(List.length rest) : Int) ∧ (↑(List.length rest) : Int) ≤ (↑(List.length rest) : Int) then
                some (List.drop (Int.toNat (0 : Int)) (List.take (Int.toNat a_57) rest), List.drop (Int.toNat (IntKind.wrap IntKind.i64 (a_57 + (1 : Int)))) (List.take (Int.toNat (↑(List.length rest) : Int)) rest))
              else none
            else none
          else
            some (rest, [(48 : UInt8)])) = some (cutHy rest) := by
    rw [LastIndex5 rest 45 (by omega)]
    unfold cutHy
    generalize lastIdx 45 rest 0 (-1) = h at hl
    by_cases c : 0 ≤ h
    · simp only [Option.bind_some, decide_eq_true c, cond_true]
      rw [w64 (by omega) (by omega), if_pos (by omega), if_pos (by omega), if_pos (by omega)]
      rw [Int.toNat_natCast, List.take_length, show (h + 1).toNat = h.toNat + 1 by omega]
      rfl
    · simp [c]
  rw [hcut]
  obtain ⟨l1, l2⟩ := cutHy_len rest
  generalize cutHy rest = ur at *
  obtain ⟨u, r⟩ := ur
  simp only at l1 l2
  simp only [Option.bind_some]
  rcases u with _ | ⟨c, u⟩
  · simp [okUR]
  · have hn : ¬ (c :: u = []) := by simp
    simp only [hn, decide_false, cond_false]
    rw [if_pos (by simp)]
    rw [show (List.getD (c :: u) (Int.toNat (0 : Int)) (0 : UInt8)) = c from rfl, digit_eq, vonly_eq (c :: u) marks (by omega), vonly_eq r _ (by omega)]
    simp only [Option.bind_some, okUR, show ([46, 43, 126] : List UInt8) = marksR from rfl]
    by_cases q1 : isD c = true <;> by_cases q2 : onlyP (c :: u) marks = true <;> by_cases hr0 : r = [] <;> by_cases q3 : onlyP r marksR = true <;> simp [q1, q2, q3, hr0]

theorem rback_eq (marks rest : List UInt8) (n : Nat) (hr : rest.length < 1000) (hm : marks.length < 1000) :
    ((cellarerref05_at rest ((45 : Int)) (Bool.true)).bind fun a_138 =>
          Option.bind (α := List UInt8 × List UInt8) (
            bif Decidable.decide ((0 : Int) ≤ a_138) then
              if (0 : Int) ≤ (0 : Int) ∧ (0 : Int) ≤ a_138 ∧ a_138 ≤ (↑(List.length rest) : Int) then
                if (0 : Int) ≤ IntKind.wrap IntKind.i64 (a_138 + (1 : Int)) ∧ IntKind.wrap IntKind.i64 (a_138 + (1 : Int)) ≤ (↑(List.length rest) : Int) ∧ (↑(List.length rest) : Int) ≤ (↑(List.length rest) : Int) then
                  some (List.drop (Int.toNat (0 : Int)) (List.take (Int.toNat a_138) rest), List.drop (Int.toNat (IntKind.wrap IntKind.i64 (a_138 + (1 : Int)))) (List.take (Int.toNat (↑(List.length rest) : Int)) rest))
                else none
              else none
            else
              some (rest, [(48 : UInt8)])) (fun t_141 =>
            bif Decidable.decide (Prod.fst t_141 = []) then
              some ((0 : Int), ([] : List UInt8), ([] : List UInt8), (2 : Int))
            else
              if (0 : Int) ≤ (0 : Int) ∧ (0 : Int) < (↑(List.length (Prod.fst t_141)) : Int) then
                (cellarerref05_Digit ((↑(UInt8.toNat (List.getD (Prod.fst t_141) (Int.toNat (0 : Int)) (0 : UInt8))) : Int))).bind fun a_142 =>
                  bif !a_142 then
                    some ((0 : Int), [], [], (2 : Int))
                  else
                    (cellarerref05_only (Prod.fst t_141) marks).bind fun a_161 =>
                      bif !a_161 then
                        some ((0 : Int), [], [], (2 : Int))
                      else
                        bif Decidable.decide (Prod.snd t_141 = []) then
                          some ((0 : Int), [], [], (2 : Int))
                        else
                          (cellarerref05_only (Prod.snd t_141) ([(46 : UInt8), (43 : UInt8), (126 : UInt8)])).bind fun a_162 =>
                            bif !a_162 then
                              some ((0 : Int), [], [], (2 : Int))
                            else
                              some ((n : Int), Prod.fst t_141, Prod.snd t_141, (0 : Int))
              else none)) =
    some (if okUR marks (cutHy rest).1 (cutHy rest).2 = true then ((n : Int), (cutHy rest).1, (cutHy rest).2, 0) else (0, [], [], 2)) := by
  have hl := last_lt 45 rest 0 (-1) (by omega)
  rw [at_last rest 45 (by omega)]
  have hcut : (bif Decidable.decide ((0 : Int) ≤ lastIdx 45 rest 0 (-1)) then
              if (0 : Int) ≤ (0 : Int) ∧ (0 : Int) ≤ lastIdx 45 rest 0 (-1) ∧ lastIdx 45 rest 0 (-1) ≤ (↑(List.length rest) : Int) then
                if (0 : Int) ≤ IntKind.wrap IntKind.i64 (lastIdx 45 rest 0 (-1) + (1 : Int)) ∧ IntKind.wrap IntKind.i64 (lastIdx 45 rest 0 (-1) + (1 : Int)) ≤ (↑(List.length rest) : Int) ∧ (↑(List.length rest) : Int) ≤ (↑(List.length rest) : Int) then
                  some (List.drop (Int.toNat (0 : Int)) (List.take (Int.toNat (lastIdx 45 rest 0 (-1))) rest), List.drop (Int.toNat (IntKind.wrap IntKind.i64 (lastIdx 45 rest 0 (-1) + (1 : Int)))) (List.take (Int.toNat (↑(List.length rest) : Int)) rest))
                else none
              else none
            else
              some (rest, [(48 : UInt8)])) = some (cutHy rest) := by
    unfold cutHy
    generalize lastIdx 45 rest 0 (-1) = h at hl
    by_cases c : 0 ≤ h
    · simp only [decide_eq_true c, cond_true]
      rw [w64 (by omega) (by omega), if_pos (by omega), if_pos (by omega), if_pos (by omega)]
      rw [Int.toNat_natCast, List.take_length, show (h + 1).toNat = h.toNat + 1 by omega]
      rfl
    · simp [c]
  rw [Option.bind_some, hcut]
  obtain ⟨l1, l2⟩ := cutHy_len rest
  generalize cutHy rest = ur at *
  obtain ⟨u, r⟩ := ur
  simp only at l1 l2
  simp only [Option.bind_some]
  rcases u with _ | ⟨c, u⟩
  · simp [okUR]
  · have hn : ¬ (c :: u = []) := by simp
    simp only [hn, decide_false, cond_false]
    rw [if_pos (by simp)]
    rw [show (List.getD (c :: u) (Int.toNat (0 : Int)) (0 : UInt8)) = c from rfl, Digit_eq, ronly_eq (c :: u) marks (by omega) (by omega), ronly_eq r _ (by omega) (by simp)]
    simp only [Option.bind_some, okUR, show ([46, 43, 126] : List UInt8) = marksR from rfl]
    by_cases q1 : isD c = true <;> by_cases q2 : onlyP (c :: u) marks = true <;> by_cases hr0 : r = [] <;> by_cases q3 : onlyP r marksR = true <;> simp [q1, q2, q3, hr0]

theorem vparse_eq (s : List UInt8) (hs : s.length < 9223372036854775808) : version_Parse s = some (parseV s) := by
  unfold version_Parse parseV
  by_cases h80 : 80 < s.length
  · simp [h80, show (80 : Int) < (s.length : Int) by omega]
  · have hx := idx_lt 58 s 0 (by omega)
    rw [IndexByte5 s 58 (by omega) (by omega)]
    simp only [show ¬ (80 : Int) < (s.length : Int) by omega, h80, decide_false, cond_false, Option.bind_some, if_false]
    unfold front
    generalize idxByte 58 s 0 = a at hx
    by_cases c : 0 ≤ a
    · simp only [decide_eq_true c, cond_true]
      rw [if_pos c]
      have hle : (s.take a.toNat).length = a.toNat := by rw [List.length_take]; omega
      rw [if_pos (by omega), show (List.drop (Int.toNat (0 : Int)) (List.take (Int.toNat a) s)) = s.take a.toNat from rfl, epoch_eq _ (by omega)]
      by_cases c1 : (s.take a.toNat).length < 1 ∨ 9 < (s.take a.toNat).length
      · rw [if_pos c1, if_neg (fun h => h.1 c1)]
        rfl
      · by_cases c2 : (s.take a.toNat).all isD = true
        · rw [if_neg c1, if_pos c2, if_pos ⟨c1, c2⟩]
          simp only [Option.bind_some, Bool.not_true, cond_false]
          rw [w64 (by omega) (by omega), if_pos (by omega)]
          have ed : List.drop (Int.toNat (a + 1)) (List.take (Int.toNat (s.length : Int)) s) = s.drop (a.toNat + 1) := by
            rw [Int.toNat_natCast, List.take_length, show (a + 1).toNat = a.toNat + 1 by omega]
          simp only [Option.bind_some, Sum.elim_inr, ed]
          exact vback_eq marks5 (s.drop (a.toNat + 1)) (dval (s.take a.toNat) 0) (by rw [List.length_drop]; omega)
        · rw [if_neg c1, if_neg c2, if_neg (fun h => c2 h.2)]
          rfl
    · simp only [c, decide_false, cond_false, if_false, Option.bind_some, Sum.elim_inr]
      exact vback_eq marks4 s 0 (by omega)

theorem rparse_eq (s : List UInt8) (hs : s.length < 9223372036854775808) : cellarerref05_Parse s = some (parseV s) := by
  unfold cellarerref05_Parse parseV
  by_cases h80 : 80 < s.length
  · simp [h80, show (80 : Int) < (s.length : Int) by omega]
  · have hx := idx_lt 58 s 0 (by omega)
    rw [at_first s 58 (by omega)]
    simp only [show ¬ (80 : Int) < (s.length : Int) by omega, h80, decide_false, cond_false, Option.bind_some, if_false]
    unfold front
    generalize idxByte 58 s 0 = a at hx
    by_cases c : 0 ≤ a
    · simp only [decide_eq_true c, cond_true]
      rw [if_pos c]
      have hle : (s.take a.toNat).length = a.toNat := by rw [List.length_take]; omega
      rw [w64 (by omega) (by omega), if_pos (by omega)]
      by_cases c1 : (s.take a.toNat).length < 1 ∨ 9 < (s.take a.toNat).length
      · have : (bif decide (a < 1) then some (Sum.inl ()) else bif decide (9 < a) then some (Sum.inl ()) else some (Sum.inr ())) = (some (Sum.inl ()) : Option (Unit ⊕ Unit)) := by
          by_cases d : a < 1
          · simp [d]
          · simp [d, show 9 < a by omega]
        simp only [this]
        rw [if_neg (fun h => h.1 c1)]
        rfl
      · have : (bif decide (a < 1) then some (Sum.inl ()) else bif decide (9 < a) then some (Sum.inl ()) else some (Sum.inr ())) = (some (Sum.inr ()) : Option (Unit ⊕ Unit)) := by
          simp [show ¬ a < 1 by omega, show ¬ 9 < a by omega]
        simp only [this]
        have hloop := refEpoch_loop s a.toNat (by omega) (by omega) (s.take a.toNat) 0 0 rfl (by omega) (by simp)
        rw [show ((a.toNat : Nat) : Int) = a by omega] at hloop
        simp only [Option.bind_some, Sum.elim_inr]
        rw [show ((0 : Int), (0 : Int)) = (((0 : Nat) : Int), ((0 : Nat) : Int)) from rfl, hloop]
        by_cases c2 : (s.take a.toNat).all isD = true
        · rw [if_pos c2, if_pos ⟨c1, c2⟩]
          have ed : List.drop (Int.toNat (a + 1)) (List.take (Int.toNat (s.length : Int)) s) = s.drop (a.toNat + 1) := by
            rw [Int.toNat_natCast, List.take_length, show (a + 1).toNat = a.toNat + 1 by omega]
          simp only [Option.bind_some, Sum.elim_inr, ed]
          exact rback_eq marks5 (s.drop (a.toNat + 1)) (dval (s.take a.toNat) 0) (by rw [List.length_drop]; omega) (by decide)
        · rw [if_neg c2, if_neg (fun h => c2 h.2)]
          rfl
    · simp only [c, decide_false, cond_false, if_false, Option.bind_some, Sum.elim_inr]
      exact rback_eq marks4 s 0 (by omega) (by decide)

def parsedV (s : List UInt8) : Int × List UInt8 × List UInt8 :=
  if (parseV s).2.2.2 = 0 then ((parseV s).1, (parseV s).2.1, (parseV s).2.2.1) else (0, s, [48])

def sgnI (x y : Int) : Int := if x < y then -1 else if y < x then 1 else 0

def cmpV (x y : Int × List UInt8 × List UInt8) : Int :=
  if sgnI x.1 y.1 ≠ 0 then sgnI x.1 y.1 else if ordC x.2.1 y.2.1 ≠ 0 then ordC x.2.1 y.2.1 else ordC x.2.2 y.2.2

theorem parseV_len (s : List UInt8) : (parseV s).2.1.length ≤ 1000 ∧ (parseV s).2.2.1.length ≤ 1000 := by
  unfold parseV
  split
  · simp
  · split
    · simp
    · rename_i marks rest n hf
      have hr : rest.length ≤ s.length := by
        unfold front at hf
        dsimp only at hf
        split at hf
        · split at hf
          · simp only [Option.some.injEq, Prod.mk.injEq] at hf
            obtain ⟨_, rfl, _⟩ := hf
            simp
          · cases hf
        · simp only [Option.some.injEq, Prod.mk.injEq] at hf
          obtain ⟨_, rfl, _⟩ := hf
          exact Nat.le_refl _
      obtain ⟨h1, h2⟩ := cutHy_len rest
      split
      · simp only; omega
      · simp

theorem parsedV_len (s : List UInt8) (hs : s.length ≤ 1000) : (parsedV s).2.1.length ≤ 1000 ∧ (parsedV s).2.2.length ≤ 1000 := by
  unfold parsedV
  split
  · exact parseV_len s
  · simpa using hs

theorem compare_eq (a b : List UInt8) (ha : a.length ≤ 1000) (hb : b.length ≤ 1000) : version_Compare a b = some (cmpV (parsedV a) (parsedV b)) := by
  unfold version_Compare version_parsed
  have pa : (bif !decide ((parseV a).2.2.2 = 0) then some ((0 : Int), a, [(48 : UInt8)]) else some ((parseV a).1, (parseV a).2.1, (parseV a).2.2.1)) = some (parsedV a) := by
    unfold parsedV
    by_cases h : (parseV a).2.2.2 = 0 <;> simp [h]
  have pb : (bif !decide ((parseV b).2.2.2 = 0) then some ((0 : Int), b, [(48 : UInt8)]) else some ((parseV b).1, (parseV b).2.1, (parseV b).2.2.1)) = some (parsedV b) := by
    unfold parsedV
    by_cases h : (parseV b).2.2.2 = 0 <;> simp [h]
  obtain ⟨a1, a2⟩ := parsedV_len a ha
  obtain ⟨b1, b2⟩ := parsedV_len b hb
  simp only [vparse_eq a (by omega), vparse_eq b (by omega), Option.bind_some, pa, pb]
  generalize parsedV a = x at *
  generalize parsedV b = y at *
  obtain ⟨x1, x2, x3⟩ := x
  obtain ⟨y1, y2, y3⟩ := y
  simp only at a1 a2 b1 b2
  simp only [cmpInt_eq, Option.bind_some, order_eq x2 y2 (by omega) (by omega), order_eq x3 y3 (by omega) (by omega), cmpV, sgnI]
  by_cases c1 : x1 < y1
  · simp [c1]
  · by_cases c2 : y1 < x1
    · simp [c1, c2]
    · by_cases c3 : ordC x2 y2 = 0 <;> simp [c1, c2, c3]

theorem refCompare_eq (a b : List UInt8) (ha : a.length ≤ 1000) (hb : b.length ≤ 1000) : cellarerref05_Compare a b = some (cmpV (parsedV a) (parsedV b)) := by
  unfold cellarerref05_Compare
  have pa : (bif !decide ((parseV a).2.2.2 = 0) then some ((0 : Int), a, [(48 : UInt8)]) else some ((parseV a).1, (parseV a).2.1, (parseV a).2.2.1)) = some (parsedV a) := by
    unfold parsedV
    by_cases h : (parseV a).2.2.2 = 0 <;> simp [h]
  have pb : (bif !decide ((parseV b).2.2.2 = 0) then some ((0 : Int), b, [(48 : UInt8)]) else some ((parseV b).1, (parseV b).2.1, (parseV b).2.2.1)) = some (parsedV b) := by
    unfold parsedV
    by_cases h : (parseV b).2.2.2 = 0 <;> simp [h]
  obtain ⟨a1, a2⟩ := parsedV_len a ha
  obtain ⟨b1, b2⟩ := parsedV_len b hb
  simp only [rparse_eq a (by omega), rparse_eq b (by omega), Option.bind_some, pa, pb]
  generalize parsedV a = x at *
  generalize parsedV b = y at *
  obtain ⟨x1, x2, x3⟩ := x
  obtain ⟨y1, y2, y3⟩ := y
  simp only at a1 a2 b1 b2
  simp only [Option.bind_some, refOrder_eq x2 y2 (by omega) (by omega), refOrder_eq x3 y3 (by omega) (by omega), cmpV, sgnI]
  by_cases c1 : x1 < y1
  · simp [c1]
  · by_cases c2 : y1 < x1
    · simp [c1, c2]
    · by_cases c3 : ordC x2 y2 = 0 <;> simp [c1, c2, c3]

theorem cmpV_swap (x y : Int × List UInt8 × List UInt8) : cmpV y x = - cmpV x y := by
  unfold cmpV sgnI
  rw [ordC_swap x.2.1 y.2.1, ordC_swap x.2.2 y.2.2]
  by_cases c1 : x.1 < y.1
  · simp [c1, show ¬ y.1 < x.1 by omega]
  · by_cases c2 : y.1 < x.1
    · simp [c1, c2]
    · by_cases c3 : ordC x.2.1 y.2.1 = 0
      · simp [c1, c2, c3]
      · simp [c1, c2, c3]

theorem cmpV_range (x y : Int × List UInt8 × List UInt8) : cmpV x y = -1 ∨ cmpV x y = 0 ∨ cmpV x y = 1 := by
  unfold cmpV sgnI
  have h1 := ordC_range x.2.1 y.2.1
  have h2 := ordC_range x.2.2 y.2.2
  by_cases c1 : x.1 < y.1
  · simp [c1]
  · by_cases c2 : y.1 < x.1
    · simp [c1, c2]
    · by_cases c3 : ordC x.2.1 y.2.1 = 0
      · simp [c1, c2, c3]; omega
      · simp [c1, c2, c3]; omega

theorem cmpV_self (x : Int × List UInt8 × List UInt8) : cmpV x x = 0 := by
  unfold cmpV sgnI ordC
  simp [cmpL_self]

/-- How three stand. -/
def T3 (a b c : Int) : Prop := (a ≤ 0 → b ≤ 0 → c ≤ 0 ∧ ((a < 0 ∨ b < 0) → c < 0)) ∧ (a = 0 → b = c)

theorem T3_lex {a b c a' b' c' : Int} (h : T3 a b c) (h' : T3 a' b' c') (hs : b = 0 → c = a) : T3 (if a ≠ 0 then a else a') (if b ≠ 0 then b else b') (if c ≠ 0 then c else c') := by
  unfold T3 at *
  obtain ⟨h1, h2⟩ := h
  obtain ⟨h3, h4⟩ := h'
  by_cases ha : a = 0
  · have hb := h2 ha
    subst ha
    subst hb
    by_cases hb : b = 0
    · subst hb
      simpa using ⟨h3, h4⟩
    · simp only [ne_eq, not_true_eq_false, if_false, hb, not_false_eq_true, if_true]
      constructor
      · intro _ hb'; exact ⟨hb', fun _ => by omega⟩
      · intro _; trivial
  · by_cases hb : b = 0
    · have hc := hs hb
      subst hb
      subst hc
      simp only [ne_eq, not_true_eq_false, if_false, ha, not_false_eq_true, if_true]
      constructor
      · intro hc _; exact ⟨hc, fun _ => by omega⟩
      · intro h; first | exact absurd h ha | exact h.elim
    · simp only [ne_eq, ha, hb, not_false_eq_true, if_true]
      constructor
      · intro ha' hb'
        have := (h1 ha' hb').2 (.inl (by omega))
        rw [if_pos (by omega)]
        exact ⟨by omega, fun _ => this⟩
      · intro h; first | exact absurd h ha | exact h.elim

theorem ordC_T3 (x y z : List UInt8) : T3 (ordC x y) (ordC y z) (ordC x z) := cmpL_three _ _ _ _ (Nat.le_refl _)

theorem ordC_zero (x y z : List UInt8) (h : ordC y z = 0) : ordC x z = ordC x y := by
  have := (ordC_T3 z y x).2 (by rw [ordC_swap, h]; rfl)
  rw [ordC_swap x y, ordC_swap x z] at this
  omega

theorem cmpV_T3 (x y z : Int × List UInt8 × List UInt8) : T3 (cmpV x y) (cmpV y z) (cmpV x z) := by
  unfold cmpV
  refine T3_lex ?_ (T3_lex (ordC_T3 _ _ _) (ordC_T3 _ _ _) (ordC_zero _ _ _)) ?_
  · unfold T3 sgnI
    constructor
    · intro h1 h2
      split at h1 <;> split at h2 <;> (try split at h1) <;> (try split at h2) <;> constructor <;> (try split) <;> (try split) <;> omega
    · intro h1
      split at h1
      · omega
      · split at h1
        · omega
        · have : x.1 = y.1 := by omega
          rw [this]
  · intro h
    unfold sgnI at *
    split at h
    · omega
    · split at h
      · omega
      · have : y.1 = z.1 := by omega
        rw [this]

def holdsV (c : Int) (op : List UInt8) : Bool :=
  if op = [60, 60] then decide (c < 0) else if op = [60, 61] then decide (c ≤ 0) else if op = [61] then decide (c = 0) else if op = [62, 61] then decide (0 ≤ c) else if op = [62, 62] then decide (0 < c) else decide (op = [])

theorem holds_eq (a op b : List UInt8) (ha : a.length ≤ 1000) (hb : b.length ≤ 1000) : version_Holds a op b = some (holdsV (cmpV (parsedV a) (parsedV b)) op) := by
  unfold version_Holds holdsV
  simp only [compare_eq a b ha hb, Option.bind_some, Bool.cond_decide]
  split
  · rfl
  · split
    · rfl
    · split
      · rfl
      · split
        · rfl
        · split <;> rfl

theorem refHolds_eq (a op b : List UInt8) (ha : a.length ≤ 1000) (hb : b.length ≤ 1000) : cellarerref05_Holds a op b = some (holdsV (cmpV (parsedV a) (parsedV b)) op) := by
  unfold cellarerref05_Holds holdsV
  simp only [refCompare_eq a b ha hb, Option.bind_some]
  generalize cmpV (parsedV a) (parsedV b) = c
  by_cases h0 : op = []
  · subst h0; simp
  · by_cases h1 : op = [60, 60]
    · subst h1
      by_cases hc : c < 0 <;> simp [hc]
    · by_cases h2 : op = [60, 61]
      · subst h2
        by_cases hc : c ≤ 0 <;> simp [hc]
      · by_cases h3 : op = [61]
        · subst h3
          by_cases hc : c = 0 <;> simp [hc]
        · by_cases h4 : op = [62, 61]
          · subst h4
            by_cases hc : 0 ≤ c <;> simp [hc]
          · by_cases h5 : op = [62, 62]
            · subst h5
              by_cases hc : 0 < c <;> simp [hc]
            · simp only [h0, h1, h2, h3, h4, h5, decide_false, cond_false, if_false]

end Go.Cellar
