/- Both orders of two texts are the keys' order. No condition. -/
import Derived.Test.YtcbkbhmmehclmaaDoorPl5q
set_option linter.unusedSimpArgs false
namespace Go.Cellar
open Go

theorem words_loop (a b : List UInt8) (ha : a.length < 4611686018427387904) (hb : b.length < 4611686018427387904) : ∀ (n k : Nat), (a.length - k) + (b.length - k) ≤ n →
    iter (cellarerref05_words_b0 a b) (k : Int) = some (if cmpL ((a.drop k).map wt) ((b.drop k).map wt) = 0 then .inr () else .inl (cmpL ((a.drop k).map wt) ((b.drop k).map wt))) := by
  intro n
  induction n with
  | zero =>
    intro k h
    have e1 : a.drop k = [] := List.drop_eq_nil_of_le (by omega)
    have e2 : b.drop k = [] := List.drop_eq_nil_of_le (by omega)
    rw [e1, e2, iter_inr (t := .inr ())]
    · simp [cmpL_nil]
    · unfold cellarerref05_words_b0
      simp [show ¬ k < a.length by omega, show ¬ k < b.length by omega]
  | succ n ih =>
    intro k h
    by_cases hend : a.length ≤ k ∧ b.length ≤ k
    · exact ih k (by omega)
    · have hbody : cellarerref05_words_b0 a b (k : Int) = some (if ((a.drop k).map wt).headD 0 < ((b.drop k).map wt).headD 0 then .inr (.inl (-1)) else if ((b.drop k).map wt).headD 0 < ((a.drop k).map wt).headD 0 then .inr (.inl 1) else .inl ((k + 1 : Nat) : Int)) := by
        unfold cellarerref05_words_b0
        have e : IntKind.wrap IntKind.i64 ((k : Int) + 1) = ((k + 1 : Nat) : Int) := by rw [w64 (by omega) (by omega)]; omega
        rcases h1 : a.drop k with _ | ⟨x, r⟩ <;> rcases h2 : b.drop k with _ | ⟨y, r'⟩
        · have := drop_nil h1; have := drop_nil h2; omega
        · have g1 := drop_nil h1
          obtain ⟨g2, g3, _⟩ := drop_cons h2 0
          simp only [natlt, show ¬ k < a.length by omega, g2, decide_true, decide_false, cond_true, cond_false, Option.bind_some, Sum.elim_inl, Int.natCast_nonneg, true_and, and_self, if_true, Int.toNat_natCast, g3, refWeight_eq, e, List.map_nil, List.map_cons, List.headD_nil, List.headD_cons, Bool.cond_decide]
          split
          · rfl
          · split <;> rfl
        · have g1 := drop_nil h2
          obtain ⟨g2, g3, _⟩ := drop_cons h1 0
          simp only [natlt, show ¬ k < b.length by omega, g2, decide_true, decide_false, cond_true, cond_false, Option.bind_some, Sum.elim_inl, Int.natCast_nonneg, true_and, and_self, if_true, Int.toNat_natCast, g3, refWeight_eq, e, List.map_nil, List.map_cons, List.headD_nil, List.headD_cons, Bool.cond_decide]
          split
          · rfl
          · split <;> rfl
        · obtain ⟨g1, g4, _⟩ := drop_cons h1 0
          obtain ⟨g2, g3, _⟩ := drop_cons h2 0
          simp only [natlt, g1, g2, decide_true, decide_false, cond_true, cond_false, Option.bind_some, Sum.elim_inl, Int.natCast_nonneg, true_and, and_self, if_true, Int.toNat_natCast, g3, g4, refWeight_eq, e, List.map_nil, List.map_cons, List.headD_nil, List.headD_cons, Bool.cond_decide]
          split
          · rfl
          · split <;> rfl
      rw [cmpL_step]
      by_cases c1 : ((a.drop k).map wt).headD 0 < ((b.drop k).map wt).headD 0
      · rw [if_pos c1] at hbody ⊢
        rw [iter_inr hbody]
        simp
      · rw [if_neg c1] at hbody ⊢
        by_cases c2 : ((b.drop k).map wt).headD 0 < ((a.drop k).map wt).headD 0
        · rw [if_pos c2] at hbody ⊢
          rw [iter_inr hbody]
          simp
        · rw [if_neg c2] at hbody ⊢
          rw [iter_inl hbody, ih (k + 1) (by omega)]
          simp only [← List.map_tail, List.tail_drop]

theorem words_eq (p q : List UInt8) (hp : p.length < 4611686018427387904) (hq : q.length < 4611686018427387904) : cellarerref05_words p q = some (wordsC p q) := by
  unfold cellarerref05_words
  rw [show ((0 : Int)) = ((0 : Nat) : Int) from rfl, words_loop p q hp hq _ 0 (Nat.le_refl _)]
  simp only [List.drop_zero, wordsC]
  by_cases h : cmpL (p.map wt) (q.map wt) = 0
  · simp [h]
  · simp [h]

theorem numbers_eq (n m : List UInt8) : cellarerref05_numbers n m = some (numC n m) := by
  unfold cellarerref05_numbers numC cmpS
  simp only [natlt, Bool.cond_decide]
  by_cases h : n.length < m.length
  · simp [h]
  · by_cases h1 : n.length = m.length
    · cases h2 : Op.bytesLess n m <;> by_cases h3 : n = m <;> simp [h1, h2, h3]
    · have h2 : m.length < n.length := by omega
      have h3 : ¬ n = m := fun c => h1 (by rw [c])
      have h4 : ¬ ((n.length : Int) = (m.length : Int)) := by omega
      simp [h, h2, h3, h4]

theorem refOrder_loop : ∀ (n : Nat) (a b : List UInt8), a.length + b.length ≤ n → n < 4611686018427387904 →
    iter cellarerref05_Order_b0 (a, b) = some (if ordC a b = 0 then .inr () else .inl (ordC a b)) := by
  intro n
  induction n with
  | zero =>
    intro a b h _
    have h1 : a = [] := List.eq_nil_of_length_eq_zero (by omega)
    have h2 : b = [] := List.eq_nil_of_length_eq_zero (by omega)
    subst h1; subst h2
    rw [iter_inr (t := .inr ())]
    · simp [ordC, cmpL_self]
    · unfold cellarerref05_Order_b0
      simp
  | succ n ih =>
    intro a b h hn
    by_cases h0 : a.length + b.length ≤ n
    · exact ih a b h0 (by omega)
    · have hw : ∀ s : List UInt8, (word s).length ≤ s.length := fun s => (List.takeWhile_sublist _).length_le
      have hlt : (rest a).length + (rest b).length < a.length + b.length := by
        by_cases ha : a = []
        · subst ha
          have hb : b ≠ [] := by rintro rfl; simp at h0
          have := rest_lt hb
          simp [show rest [] = [] from rfl]; omega
        · have h1 := rest_lt ha
          have h2 : (rest b).length ≤ b.length := by
            by_cases hb : b = []
            · subst hb; exact Nat.le_refl _
            · exact Nat.le_of_lt (rest_lt hb)
          omega
      have hbody : cellarerref05_Order_b0 (a, b) = some (if wordsC (word a) (word b) ≠ 0 then .inr (.inl (wordsC (word a) (word b))) else if numC (numb a) (numb b) ≠ 0 then .inr (.inl (numC (numb a) (numb b))) else .inl (rest a, rest b)) := by
        unfold cellarerref05_Order_b0
        have hc : (bif !decide (a = []) then some (Sum.inl ()) else bif !decide (b = []) then some (Sum.inl ()) else some (Sum.inr ())) = (some (Sum.inl ()) : Option (Unit ⊕ Unit)) := by
          by_cases ha : a = []
          · subst ha
            have hb : b ≠ [] := by rintro rfl; simp at h0
            simp [hb]
          · simp [ha]
        have := hw a
        have := hw b
        simp only [hc]
        simp only [Option.bind_some, Sum.elim_inl, piece_eq a (by omega), piece_eq b (by omega), words_eq (word a) (word b) (by omega) (by omega), numbers_eq, Bool.cond_not, Bool.cond_decide]
        by_cases c1 : wordsC (word a) (word b) = 0
        · by_cases c2 : numC (numb a) (numb b) = 0
          · simp [c1, c2]
          · simp [c1, c2]
        · simp [c1]
      rw [ord_step]
      by_cases c1 : wordsC (word a) (word b) = 0
      · by_cases c2 : numC (numb a) (numb b) = 0
        · simp only [c1, c2, ne_eq, not_true_eq_false, if_false] at hbody ⊢
          rw [iter_inl hbody, ih _ _ (by omega) (by omega)]
        · simp only [c1, c2, ne_eq, not_true_eq_false, not_false_eq_true, if_false, if_true] at hbody ⊢
          rw [iter_inr hbody]
      · simp only [c1, ne_eq, not_false_eq_true, if_true] at hbody ⊢
        rw [iter_inr hbody]
        simp

theorem refOrder_eq (a b : List UInt8) (h : a.length + b.length < 4611686018427387904) : cellarerref05_Order a b = some (ordC a b) := by
  unfold cellarerref05_Order
  rw [refOrder_loop _ a b (Nat.le_refl _) h]
  by_cases c : ordC a b = 0 <;> simp [c]

/-! ### the program's order -/

def hdnd : List UInt8 → Bool
  | [] => false
  | c :: _ => nd c

theorem in_body (a b : List UInt8) (i k : Nat) (hi : i < 4611686018427387904) (hk : k < 4611686018427387904) : version_Order_b0 a b ((i : Int), (k : Int)) =
    some (if hdnd (a.drop i) || hdnd (b.drop k) then (if wtAt (a.drop i) < wtAt (b.drop k) then .inr (.inl (-1)) else if wtAt (b.drop k) < wtAt (a.drop i) then .inr (.inl 1) else .inl (((i + 1 : Nat) : Int), ((k + 1 : Nat) : Int))) else .inr (.inr ((i : Int), (k : Int)))) := by
  unfold version_Order_b0
  have e1 : IntKind.wrap IntKind.i64 ((i : Int) + 1) = ((i + 1 : Nat) : Int) := by rw [w64 (by omega) (by omega)]; omega
  have e2 : IntKind.wrap IntKind.i64 ((k : Int) + 1) = ((k + 1 : Nat) : Int) := by rw [w64 (by omega) (by omega)]; omega
  have hc : (bif decide ((i : Int) < (a.length : Int)) then
      if (0 : Int) ≤ (i : Int) ∧ (i : Int) < (a.length : Int) then
        (version_digit ((a.getD (Int.toNat (i : Int)) 0).toNat : Int)).bind fun d =>
          bif !d then some (Sum.inl ()) else
            bif decide ((k : Int) < (b.length : Int)) then
              if (0 : Int) ≤ (k : Int) ∧ (k : Int) < (b.length : Int) then
                (version_digit ((b.getD (Int.toNat (k : Int)) 0).toNat : Int)).bind fun d => bif !d then some (Sum.inl ()) else some (Sum.inr ())
              else none
            else some (Sum.inr ())
      else none
    else
      bif decide ((k : Int) < (b.length : Int)) then
        if (0 : Int) ≤ (k : Int) ∧ (k : Int) < (b.length : Int) then
          (version_digit ((b.getD (Int.toNat (k : Int)) 0).toNat : Int)).bind fun d => bif !d then some (Sum.inl ()) else some (Sum.inr ())
        else none
      else some (Sum.inr ())) = (some (if hdnd (a.drop i) || hdnd (b.drop k) then .inl () else .inr ()) : Option (Unit ⊕ Unit)) := by
    rcases h1 : a.drop i with _ | ⟨x, r⟩ <;> rcases h2 : b.drop k with _ | ⟨y, r'⟩
    · have := drop_nil h1; have := drop_nil h2
      simp [natlt, show ¬ i < a.length by omega, show ¬ k < b.length by omega, hdnd]
    · have g1 := drop_nil h1
      obtain ⟨g2, g3, _⟩ := drop_cons h2 0
      simp only [natlt, show ¬ i < a.length by omega, g2, decide_true, decide_false, cond_true, cond_false, Int.natCast_nonneg, true_and, if_true, Int.toNat_natCast, g3, digit_eq, Option.bind_some, hdnd, nd]
      by_cases q : isD y = true <;> simp [q]
    · have g1 := drop_nil h2
      obtain ⟨g2, g3, _⟩ := drop_cons h1 0
      simp only [natlt, show ¬ k < b.length by omega, g2, decide_true, decide_false, cond_true, cond_false, Int.natCast_nonneg, true_and, if_true, Int.toNat_natCast, g3, digit_eq, Option.bind_some, hdnd, nd]
      by_cases q : isD x = true <;> simp [q]
    · obtain ⟨g1, g4, _⟩ := drop_cons h1 0
      obtain ⟨g2, g3, _⟩ := drop_cons h2 0
      simp only [natlt, g1, g2, decide_true, decide_false, cond_true, cond_false, Int.natCast_nonneg, true_and, if_true, Int.toNat_natCast, g3, g4, digit_eq, Option.bind_some, hdnd, nd]
      by_cases q : isD x = true <;> by_cases q2 : isD y = true <;> simp [q, q2]
  simp only [hc, Option.bind_some]
  by_cases hh : (hdnd (a.drop i) || hdnd (b.drop k)) = true
  · rw [if_pos hh, if_pos hh]
    simp only [Sum.elim_inl, weight_eq, cmpInt_eq, Option.bind_some, e1, e2]
    by_cases c1 : wtAt (a.drop i) < wtAt (b.drop k)
    · simp [c1]
    · by_cases c2 : wtAt (b.drop k) < wtAt (a.drop i)
      · simp [c1, c2]
      · simp [c1, c2]
  · rw [if_neg hh, if_neg hh]; rfl

theorem in_loop (a b : List UInt8) (ha : a.length < 2305843009213693952) (hb : b.length < 2305843009213693952) : ∀ (r : List UInt8) (i k : Nat), a.drop i = r → i ≤ a.length → k ≤ b.length →
    iter (version_Order_b0 a b) ((i : Int), (k : Int)) = some (if wordsC (word (a.drop i)) (word (b.drop k)) = 0 then .inr (((i + (word (a.drop i)).length : Nat) : Int), ((k + (word (b.drop k)).length : Nat) : Int)) else .inl (wordsC (word (a.drop i)) (word (b.drop k)))) := by
  intro r
  induction r with
  | nil =>
    intro i k h hi hk
    have hbody := in_body a b i k (by omega) (by omega)
    rw [h] at hbody ⊢
    rcases h2 : b.drop k with _ | ⟨y, r'⟩
    · rw [h2] at hbody
      rw [iter_inr (t := .inr ((i : Int), (k : Int))) (by rw [hbody]; rfl)]
      simp [word, wordsC, cmpL_nil]
    · rw [h2] at hbody
      cases hy : nd y
      · rw [iter_inr (t := .inr ((i : Int), (k : Int))) (by rw [hbody]; simp [hdnd, hy])]
        simp [word, wordsC, cmpL_nil, hy]
      · have hy' : isD y = false := by simpa [nd] using hy
        have hw := wt_ne y
        have e : wordsC (word []) (word (y :: r')) = if 0 < wt y then -1 else 1 := by
          simp only [word, wordsC, List.takeWhile_nil, List.takeWhile_cons, hy, if_true, List.map_nil, List.map_cons]
          rw [cmpL_step]
          simp only [List.headD_nil, List.headD_cons]
          by_cases c : 0 < wt y
          · simp [c]
          · simp [c, show wt y < 0 by omega]
        rw [iter_inr (t := .inl (if 0 < wt y then -1 else 1)), e]
        · split <;> simp
        · rw [hbody]
          simp only [hdnd, hy, Bool.or_true, Bool.false_or, if_true, wtAt, hy', Bool.false_eq_true, if_false]
          by_cases c : 0 < wt y
          · simp [c]
          · simp [c, show wt y < 0 by omega]
  | cons x r ih =>
    intro i k h hi hk
    obtain ⟨g1, _, g2⟩ := drop_cons h 0
    have hbody := in_body a b i k (by omega) (by omega)
    cases hx : nd x
    · have hx' : isD x = true := by simpa [nd] using hx
      rw [h] at hbody ⊢
      rcases h2 : b.drop k with _ | ⟨y, r'⟩
      · rw [h2] at hbody
        rw [iter_inr (t := .inr ((i : Int), (k : Int))) (by rw [hbody]; simp [hdnd, hx])]
        simp [word, wordsC, cmpL_nil, hx]
      · rw [h2] at hbody
        cases hy : nd y
        · rw [iter_inr (t := .inr ((i : Int), (k : Int))) (by rw [hbody]; simp [hdnd, hy, hx])]
          simp [word, wordsC, cmpL_nil, hy, hx]
        · have hy' : isD y = false := by simpa [nd] using hy
          have hw := wt_ne y
          have e : wordsC (word (x :: r)) (word (y :: r')) = if 0 < wt y then -1 else 1 := by
            simp only [word, wordsC, List.takeWhile_cons, hy, hx, if_true, Bool.false_eq_true, if_false, List.map_nil, List.map_cons]
            rw [cmpL_step]
            simp only [List.headD_nil, List.headD_cons]
            by_cases c : 0 < wt y
            · simp [c]
            · simp [c, show wt y < 0 by omega]
          rw [iter_inr (t := .inl (if 0 < wt y then -1 else 1)), e]
          · split <;> simp
          · rw [hbody]
            simp only [hdnd, hy, hx, Bool.or_true, Bool.false_or, if_true, wtAt, hy', hx', Bool.false_eq_true, if_false]
            by_cases c : 0 < wt y
            · simp [c]
            · simp [c, show wt y < 0 by omega]
    · have hx' : isD x = false := by simpa [nd] using hx
      have hw := wt_ne x
      rcases h2 : b.drop k with _ | ⟨y, r'⟩
      · rw [h, h2] at hbody
        rw [h]
        have e : wordsC (word (x :: r)) (word []) = if wt x < 0 then -1 else 1 := by
          simp only [word, wordsC, List.takeWhile_nil, List.takeWhile_cons, hx, if_true, List.map_nil, List.map_cons]
          rw [cmpL_step]
          simp only [List.headD_nil, List.headD_cons]
          by_cases c : wt x < 0
          · simp [c]
          · simp [c, show 0 < wt x by omega]
        rw [iter_inr (t := .inl (if wt x < 0 then -1 else 1)), e]
        · split <;> simp
        · rw [hbody]
          simp only [hdnd, hx, Bool.or_false, if_true, wtAt, hx', Bool.false_eq_true, if_false]
          by_cases c : wt x < 0
          · simp [c]
          · simp [c, show 0 < wt x by omega]
      · obtain ⟨g3, _, g4⟩ := drop_cons h2 0
        cases hy : nd y
        · have hy' : isD y = true := by simpa [nd] using hy
          rw [h, h2] at hbody
          rw [h]
          have e : wordsC (word (x :: r)) (word (y :: r')) = if wt x < 0 then -1 else 1 := by
            simp only [word, wordsC, List.takeWhile_nil, List.takeWhile_cons, hx, hy, if_true, Bool.false_eq_true, if_false, List.map_nil, List.map_cons]
            rw [cmpL_step]
            simp only [List.headD_nil, List.headD_cons]
            by_cases c : wt x < 0
            · simp [c]
            · simp [c, show 0 < wt x by omega]
          rw [iter_inr (t := .inl (if wt x < 0 then -1 else 1)), e]
          · split <;> simp
          · rw [hbody]
            simp only [hdnd, hx, hy, Bool.or_false, if_true, wtAt, hx', hy', Bool.false_eq_true, if_false]
            by_cases c : wt x < 0
            · simp [c]
            · simp [c, show 0 < wt x by omega]
        · have hy' : isD y = false := by simpa [nd] using hy
          have e : wordsC (word (x :: r)) (word (y :: r')) = if wt x < wt y then -1 else if wt y < wt x then 1 else wordsC (word r) (word r') := by
            simp only [word, wordsC, List.takeWhile_cons, hx, hy, if_true, List.map_cons, cmpL_cons]
          have hlen : (word (x :: r)).length = (word r).length + 1 := by simp [word, List.takeWhile_cons, hx]
          have hlen' : (word (y :: r')).length = (word r').length + 1 := by simp [word, List.takeWhile_cons, hy]
          rw [h, h2] at hbody
          simp only [hdnd, hx, hy, Bool.or_self, if_true, wtAt, hx', hy', Bool.false_eq_true, if_false] at hbody
          rw [h]
          by_cases c1 : wt x < wt y
          · rw [if_pos c1] at hbody
            rw [iter_inr hbody, e, if_pos c1]
            simp
          · by_cases c2 : wt y < wt x
            · rw [if_neg c1, if_pos c2] at hbody
              rw [iter_inr hbody, e, if_neg c1, if_pos c2]
              simp
            · rw [if_neg c1, if_neg c2] at hbody
              rw [iter_inl hbody, ih (i + 1) (k + 1) g2 (by omega) (by omega), e, if_neg c1, if_neg c2, g2, g4, hlen, hlen']
              simp only [Nat.add_assoc, Nat.add_comm 1]

end Go.Cellar
