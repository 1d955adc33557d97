/- Both orders of two texts are the keys' order. No condition. -/
import Derived.Test.YtapfjjbgcfnnmaaDoorPl20b
set_option linter.unusedSimpArgs false
set_option linter.unusedVariables false
set_option maxRecDepth 4000
namespace Go.Cellar
open Go

/-- A loop that goes on as long as a test holds. -/
theorem skip_loop (B : Int → Option (Int ⊕ Int)) (p : UInt8 → Bool) (s : List UInt8)
    (hstop : ∀ k : Nat, (∀ c r, s.drop k = c :: r → p c = false) → B (k : Int) = some (.inr (k : Int)))
    (hgo : ∀ (k : Nat) (c : UInt8) (r : List UInt8), s.drop k = c :: r → p c = true → B (k : Int) = some (.inl ((k + 1 : Nat) : Int))) :
    ∀ (r : List UInt8) (k : Nat), s.drop k = r → iter B (k : Int) = some ((k + (r.takeWhile p).length : Nat) : Int) := by
  intro r
  induction r with
  | nil =>
    intro k h
    rw [iter_inr (hstop k (fun c r hc => by rw [h] at hc; cases hc))]
    rfl
  | cons x r ih =>
    intro k h
    by_cases hx : p x = true
    · rw [iter_inl (hgo k x r h hx), ih (k + 1) (drop_cons h 0).2.2]
      simp [List.takeWhile_cons, hx]
      omega
    · rw [iter_inr (hstop k (fun c r' hc => by rw [h] at hc; cases hc; simpa using hx))]
      simp [List.takeWhile_cons, hx]

theorem take_drop_takeWhile {α : Type} (p : α → Bool) (s : List α) (k : Nat) : (s.take (k + ((s.drop k).takeWhile p).length)).drop k = (s.drop k).takeWhile p := by
  rw [List.drop_take, Nat.add_sub_cancel_left]
  conv => lhs; arg 2; rw [← List.takeWhile_append_dropWhile (p := p) (l := s.drop k)]
  rw [List.take_left]

theorem drop_takeWhile {α : Type} (p : α → Bool) (s : List α) (k : Nat) : s.drop (k + ((s.drop k).takeWhile p).length) = (s.drop k).dropWhile p := by
  rw [← List.drop_drop]
  conv => lhs; arg 2; rw [← List.takeWhile_append_dropWhile (p := p) (l := s.drop k)]
  rw [List.drop_left]

theorem takeWhile_fits {α : Type} (p : α → Bool) (s : List α) (k : Nat) (h : k ≤ s.length) : k + ((s.drop k).takeWhile p).length ≤ s.length := by
  have := (List.takeWhile_sublist p (l := s.drop k)).length_le
  rw [List.length_drop] at this
  omega

theorem piece0 (s : List UInt8) (hs : s.length < 9223372036854775808) (k : Nat) : iter (cellarerref05_piece_b0 s) (k : Int) = some ((k + ((s.drop k).takeWhile nd).length : Nat) : Int) := by
  refine skip_loop _ nd s ?_ ?_ _ k rfl
  · intro k h
    unfold cellarerref05_piece_b0
    rcases hd : s.drop k with _ | ⟨c, r⟩
    · have := drop_nil hd
      simp [natlt, this, show ¬ k < s.length by omega]
    · obtain ⟨h1, h2, h3⟩ := drop_cons hd 0
      have := h c r hd
      simp only [natlt, h1, decide_true, cond_true, Int.natCast_nonneg, true_and, if_true, Int.toNat_natCast, h2, Digit_eq, Option.bind_some]
      simp [nd] at this
      simp [this]
  · intro k c r hd hp
    unfold cellarerref05_piece_b0
    obtain ⟨h1, h2, h3⟩ := drop_cons hd 0
    simp only [natlt, h1, decide_true, cond_true, Int.natCast_nonneg, true_and, if_true, Int.toNat_natCast, h2, Digit_eq, Option.bind_some]
    simp [nd] at hp
    simp [hp]
    rw [w64 (by omega) (by omega)]

theorem piece1 (s : List UInt8) (hs : s.length < 9223372036854775808) (k : Nat) : iter (cellarerref05_piece_b1 s) (k : Int) = some ((k + ((s.drop k).takeWhile isD).length : Nat) : Int) := by
  refine skip_loop _ isD s ?_ ?_ _ k rfl
  · intro k h
    unfold cellarerref05_piece_b1
    rcases hd : s.drop k with _ | ⟨c, r⟩
    · have := drop_nil hd
      simp [natlt, this, show ¬ k < s.length by omega]
    · obtain ⟨h1, h2, h3⟩ := drop_cons hd 0
      have := h c r hd
      simp only [natlt, h1, decide_true, cond_true, Int.natCast_nonneg, true_and, if_true, Int.toNat_natCast, h2, Digit_eq, Option.bind_some]
      simp [this]
  · intro k c r hd hp
    unfold cellarerref05_piece_b1
    obtain ⟨h1, h2, h3⟩ := drop_cons hd 0
    simp only [natlt, h1, decide_true, cond_true, Int.natCast_nonneg, true_and, if_true, Int.toNat_natCast, h2, Digit_eq, Option.bind_some]
    simp [hp]
    rw [w64 (by omega) (by omega)]

theorem number0 (s : List UInt8) (hs : s.length < 9223372036854775808) (k : Nat) : iter (version_number_b0 s) (k : Int) = some ((k + ((s.drop k).takeWhile isD).length : Nat) : Int) := by
  refine skip_loop _ isD s ?_ ?_ _ k rfl
  · intro k h
    unfold version_number_b0
    rcases hd : s.drop k with _ | ⟨c, r⟩
    · have := drop_nil hd
      simp [natlt, this, show ¬ k < s.length by omega]
    · obtain ⟨h1, h2, h3⟩ := drop_cons hd 0
      have := h c r hd
      simp only [natlt, h1, decide_true, cond_true, Int.natCast_nonneg, true_and, if_true, Int.toNat_natCast, h2, digit_eq, Option.bind_some]
      simp [this]
  · intro k c r hd hp
    unfold version_number_b0
    obtain ⟨h1, h2, h3⟩ := drop_cons hd 0
    simp only [natlt, h1, decide_true, cond_true, Int.natCast_nonneg, true_and, if_true, Int.toNat_natCast, h2, digit_eq, Option.bind_some]
    simp [hp]
    rw [w64 (by omega) (by omega)]

def is0 (c : UInt8) : Bool := decide (c.toNat = 48)

theorem piece2 : ∀ (d : List UInt8), iter cellarerref05_piece_b2 d = some (d.dropWhile is0) := by
  intro d
  induction d with
  | nil =>
    rw [iter_inr (t := [])]
    · rfl
    · unfold cellarerref05_piece_b2
      simp
  | cons c r ih =>
    have e : ((c.toNat : Int) = 48) = (c.toNat = 48) := propext (by omega)
    by_cases hc : c.toNat = 48
    · rw [iter_inl (s' := r), ih]
      · simp [List.dropWhile_cons, is0, hc]
      · unfold cellarerref05_piece_b2
        simp [e, hc]
        omega
    · rw [iter_inr (t := c :: r)]
      · simp [List.dropWhile_cons, is0, hc]
      · unfold cellarerref05_piece_b2
        simp [e, hc]

theorem trim0 : ∀ (d : List UInt8), iter (strings_trimLeftByte_b0 48) d = some (d.dropWhile is0) := by
  intro d
  induction d with
  | nil =>
    rw [iter_inr (t := [])]
    · rfl
    · unfold strings_trimLeftByte_b0
      simp
  | cons c r ih =>
    have e : ((c.toNat : Int) = 48) = (c.toNat = 48) := propext (by omega)
    by_cases hc : c.toNat = 48
    · rw [iter_inl (s' := r), ih]
      · simp [List.dropWhile_cons, is0, hc]
      · unfold strings_trimLeftByte_b0
        simp [e, hc]
        omega
    · rw [iter_inr (t := c :: r)]
      · simp [List.dropWhile_cons, is0, hc]
      · unfold strings_trimLeftByte_b0
        simp [e, hc]

theorem TrimLeft5 (d : List UInt8) : strings_TrimLeft d = some (d.dropWhile is0) := by
  unfold strings_TrimLeft strings_trimLeftByte
  by_cases h : d = []
  · subst h; simp
  · simp only [h, decide_false, cond_false, Option.bind_some, Sum.elim_inr]
    rw [show ((List.getD [(48 : UInt8)] (Int.toNat (0 : Int)) (0 : UInt8)).toNat : Int) = 48 from rfl, trim0]
    rfl

theorem piece_eq (s : List UInt8) (hs : s.length < 9223372036854775808) : cellarerref05_piece s = some (word s, numb s, rest s) := by
  unfold cellarerref05_piece
  have h0 := piece0 s hs 0
  have h1 := piece1 s hs (0 + ((s.drop 0).takeWhile nd).length)
  have e1 := drop_takeWhile nd s 0
  have e2 := drop_takeWhile isD s (0 + ((s.drop 0).takeWhile nd).length)
  have e3 := take_drop_takeWhile isD s (0 + ((s.drop 0).takeWhile nd).length)
  have e4 := take_drop_takeWhile nd s 0
  have f1 := takeWhile_fits nd s 0 (by omega)
  have f2 := takeWhile_fits isD s _ f1
  rw [e1] at h1 e2 e3 f2
  rw [show ((0 : Int)) = ((0 : Nat) : Int) from rfl, h0]
  simp only [Option.bind_some]
  rw [h1]
  simp only [Option.bind_some, Int.toNat_natCast, e3, piece2, List.take_length, e2]
  rw [if_pos (by omega), if_pos (by omega), if_pos (by omega), e4]
  rfl

theorem number_eq (s : List UInt8) (hs : s.length < 9223372036854775808) (k : Nat) (hk : k ≤ s.length) : version_number s (k : Int) = some (((s.drop k).takeWhile isD).dropWhile is0, ((k + ((s.drop k).takeWhile isD).length : Nat) : Int)) := by
  unfold version_number
  rw [number0 s hs k]
  have e3 := take_drop_takeWhile isD s k
  have f1 := takeWhile_fits isD s k hk
  simp only [Option.bind_some, Int.toNat_natCast, e3, TrimLeft5]
  rw [if_pos (by omega)]

theorem words_loop (a b : List UInt8) (ha : a.length < 9223372036854775808) (hb : b.length < 9223372036854775808) : ∀ (n k : Nat), (a.length - k) + (b.length - k) ≤ n →
    iter (cellarerref05_words_b0 a b) (k : Int) = some (if cmpL ((a.drop k).map wt) ((b.drop k).map wt) = 0 then .inr () else .inl (cmpL ((a.drop k).map wt) ((b.drop k).map wt))) := by
  intro n
  induction n with
  | zero =>
    intro k h
    have e1 : a.drop k = [] := List.drop_eq_nil_of_le (by omega)
    have e2 : b.drop k = [] := List.drop_eq_nil_of_le (by omega)
    rw [e1, e2, iter_inr (t := .inr ())]
    · simp [cmpL_nil]
    · unfold cellarerref05_words_b0
      simp [show ¬ k < a.length by omega, show ¬ k < b.length by omega]
  | succ n ih =>
    intro k h
    by_cases hend : a.length ≤ k ∧ b.length ≤ k
    · exact ih k (by omega)
    · have hbody : cellarerref05_words_b0 a b (k : Int) = some (if ((a.drop k).map wt).headD 0 < ((b.drop k).map wt).headD 0 then .inr (.inl (-1)) else if ((b.drop k).map wt).headD 0 < ((a.drop k).map wt).headD 0 then .inr (.inl 1) else .inl ((k + 1 : Nat) : Int)) := by
        unfold cellarerref05_words_b0
        have e : IntKind.wrap IntKind.i64 ((k : Int) + 1) = ((k + 1 : Nat) : Int) := by rw [w64 (by omega) (by omega)]; omega
        rcases h1 : a.drop k with _ | ⟨x, r⟩ <;> rcases h2 : b.drop k with _ | ⟨y, r'⟩
        · have := drop_nil h1; have := drop_nil h2; omega
        · have g1 := drop_nil h1
          obtain ⟨g2, g3, _⟩ := drop_cons h2 0
          simp only [natlt, show ¬ k < a.length by omega, g2, decide_true, decide_false, cond_true, cond_false, Option.bind_some, Sum.elim_inl, Int.natCast_nonneg, true_and, and_self, if_true, Int.toNat_natCast, g3, refWeight_eq, e, List.map_nil, List.map_cons, List.headD_nil, List.headD_cons, Bool.cond_decide]
          split
          · rfl
          · split <;> rfl
        · have g1 := drop_nil h2
          obtain ⟨g2, g3, _⟩ := drop_cons h1 0
          simp only [natlt, show ¬ k < b.length by omega, g2, decide_true, decide_false, cond_true, cond_false, Option.bind_some, Sum.elim_inl, Int.natCast_nonneg, true_and, and_self, if_true, Int.toNat_natCast, g3, refWeight_eq, e, List.map_nil, List.map_cons, List.headD_nil, List.headD_cons, Bool.cond_decide]
          split
          · rfl
          · split <;> rfl
        · obtain ⟨g1, g4, _⟩ := drop_cons h1 0
          obtain ⟨g2, g3, _⟩ := drop_cons h2 0
          simp only [natlt, g1, g2, decide_true, decide_false, cond_true, cond_false, Option.bind_some, Sum.elim_inl, Int.natCast_nonneg, true_and, and_self, if_true, Int.toNat_natCast, g3, g4, refWeight_eq, e, List.map_nil, List.map_cons, List.headD_nil, List.headD_cons, Bool.cond_decide]
          split
          · rfl
          · split <;> rfl
      rw [cmpL_step]
      by_cases c1 : ((a.drop k).map wt).headD 0 < ((b.drop k).map wt).headD 0
      · rw [if_pos c1] at hbody ⊢
        rw [iter_inr hbody]
        simp
      · rw [if_neg c1] at hbody ⊢
        by_cases c2 : ((b.drop k).map wt).headD 0 < ((a.drop k).map wt).headD 0
        · rw [if_pos c2] at hbody ⊢
          rw [iter_inr hbody]
          simp
        · rw [if_neg c2] at hbody ⊢
          rw [iter_inl hbody, ih (k + 1) (by omega)]
          simp only [← List.map_tail, List.tail_drop]

theorem words_eq (p q : List UInt8) (hp : p.length < 9223372036854775808) (hq : q.length < 9223372036854775808) : cellarerref05_words p q = some (wordsC p q) := by
  unfold cellarerref05_words
  rw [show ((0 : Int)) = ((0 : Nat) : Int) from rfl, words_loop p q hp hq _ 0 (Nat.le_refl _)]
  simp only [List.drop_zero, wordsC]
  by_cases h : cmpL (p.map wt) (q.map wt) = 0
  · simp [h]
  · simp [h]

theorem numbers_eq (n m : List UInt8) : cellarerref05_numbers n m = some (numC n m) := by
  unfold cellarerref05_numbers numC cmpS
  simp only [natlt, Bool.cond_decide]
  by_cases h : n.length < m.length
  · simp [h]
  · by_cases h1 : n.length = m.length
    · cases h2 : Op.bytesLess n m <;> by_cases h3 : n = m <;> simp [h1, h2, h3]
    · have h2 : m.length < n.length := by omega
      have h3 : ¬ n = m := fun c => h1 (by rw [c])
      have h4 : ¬ ((n.length : Int) = (m.length : Int)) := by omega
      simp [h, h2, h3, h4]

theorem refOrder_loop : ∀ (n : Nat) (a b : List UInt8), a.length + b.length ≤ n → a.length < 9223372036854775808 → b.length < 9223372036854775808 →
    iter cellarerref05_Order_b0 (a, b) = some (if ordC a b = 0 then .inr () else .inl (ordC a b)) := by
  intro n
  induction n with
  | zero =>
    intro a b h _ _
    have h1 : a = [] := List.eq_nil_of_length_eq_zero (by omega)
    have h2 : b = [] := List.eq_nil_of_length_eq_zero (by omega)
    subst h1; subst h2
    rw [iter_inr (t := .inr ())]
    · simp [ordC, cmpL_self]
    · unfold cellarerref05_Order_b0
      simp
  | succ n ih =>
    intro a b h hA hB
    by_cases h0 : a.length + b.length ≤ n
    · exact ih a b h0 hA hB
    · have hw : ∀ s : List UInt8, (word s).length ≤ s.length := fun s => (List.takeWhile_sublist _).length_le
      have hr : ∀ s : List UInt8, (rest s).length ≤ s.length := fun s => by
        by_cases hs : s = []
        · subst hs; exact Nat.le_refl _
        · exact Nat.le_of_lt (rest_lt hs)
      have hra := hr a
      have hrb := hr b
      have hlt : (rest a).length + (rest b).length < a.length + b.length := by
        by_cases ha : a = []
        · subst ha
          have hb : b ≠ [] := by rintro rfl; simp at h0
          have := rest_lt hb
          simp [show rest [] = [] from rfl]; omega
        · have h1 := rest_lt ha
          have h2 : (rest b).length ≤ b.length := by
            by_cases hb : b = []
            · subst hb; exact Nat.le_refl _
            · exact Nat.le_of_lt (rest_lt hb)
          omega
      have hbody : cellarerref05_Order_b0 (a, b) = some (if wordsC (word a) (word b) ≠ 0 then .inr (.inl (wordsC (word a) (word b))) else if numC (numb a) (numb b) ≠ 0 then .inr (.inl (numC (numb a) (numb b))) else .inl (rest a, rest b)) := by
        unfold cellarerref05_Order_b0
        have hc : (bif !decide (a = []) then some (Sum.inl ()) else bif !decide (b = []) then some (Sum.inl ()) else some (Sum.inr ())) = (some (Sum.inl ()) : Option (Unit ⊕ Unit)) := by
          by_cases ha : a = []
          · subst ha
            have hb : b ≠ [] := by rintro rfl; simp at h0
            simp [hb]
          · simp [ha]
        have := hw a
        have := hw b
        simp only [hc]
        simp only [Option.bind_some, Sum.elim_inl, piece_eq a (by omega), piece_eq b (by omega), words_eq (word a) (word b) (by omega) (by omega), numbers_eq, Bool.cond_not, Bool.cond_decide]
        by_cases c1 : wordsC (word a) (word b) = 0
        · by_cases c2 : numC (numb a) (numb b) = 0
          · simp [c1, c2]
          · simp [c1, c2]
        · simp [c1]
      rw [ord_step]
      by_cases c1 : wordsC (word a) (word b) = 0
      · by_cases c2 : numC (numb a) (numb b) = 0
        · simp only [c1, c2, ne_eq, not_true_eq_false, if_false] at hbody ⊢
          rw [iter_inl hbody, ih _ _ (by omega) (by omega) (by omega)]
        · simp only [c1, c2, ne_eq, not_true_eq_false, not_false_eq_true, if_false, if_true] at hbody ⊢
          rw [iter_inr hbody]
      · simp only [c1, ne_eq, not_false_eq_true, if_true] at hbody ⊢
        rw [iter_inr hbody]
        simp

theorem refOrder_eq (a b : List UInt8) (hA : a.length < 9223372036854775808) (hB : b.length < 9223372036854775808) : cellarerref05_Order a b = some (ordC a b) := by
  unfold cellarerref05_Order
  rw [refOrder_loop _ a b (Nat.le_refl _) hA hB]
  by_cases c : ordC a b = 0 <;> simp [c]

def hdnd : List UInt8 → Bool
  | [] => false
  | c :: _ => nd c

theorem in_lt (x y : List UInt8) (hh : (hdnd x || hdnd y) = true) (h : wtAt x = wtAt y) : x ≠ [] ∧ y ≠ [] := by
  have one : ∀ (c : UInt8) (r : List UInt8), nd c = true → wtAt (c :: r) ≠ 0 := fun c r hc => by
    have : isD c = false := by simpa [nd] using hc
    have e : wtAt (c :: r) = wt c := by show (if isD c = true then 0 else wt c) = wt c; rw [this]; rfl
    rw [e]
    exact wt_ne c
  cases x with
  | nil =>
    cases y with
    | nil => simp [hdnd] at hh
    | cons c r =>
      have : nd c = true := by simpa [hdnd] using hh
      exact absurd h.symm (one c r this)
  | cons c r =>
    cases y with
    | nil =>
      have : nd c = true := by simpa [hdnd] using hh
      exact absurd h (one c r this)
    | cons d r' => exact ⟨by simp, by simp⟩

theorem in_body (a b : List UInt8) (i k : Nat) (ha : a.length < 9223372036854775808) (hb : b.length < 9223372036854775808) : version_Order_b0 a b ((i : Int), (k : Int)) =
    some (if hdnd (a.drop i) || hdnd (b.drop k) then (if wtAt (a.drop i) < wtAt (b.drop k) then .inr (.inl (-1)) else if wtAt (b.drop k) < wtAt (a.drop i) then .inr (.inl 1) else .inl (((i + 1 : Nat) : Int), ((k + 1 : Nat) : Int))) else .inr (.inr ((i : Int), (k : Int)))) := by
  unfold version_Order_b0
  have hc : (bif decide ((i : Int) < (a.length : Int)) then
      if (0 : Int) ≤ (i : Int) ∧ (i : Int) < (a.length : Int) then
        (version_digit ((a.getD (Int.toNat (i : Int)) 0).toNat : Int)).bind fun d =>
          bif !d then some (Sum.inl ()) else
            bif decide ((k : Int) < (b.length : Int)) then
              if (0 : Int) ≤ (k : Int) ∧ (k : Int) < (b.length : Int) then
                (version_digit ((b.getD (Int.toNat (k : Int)) 0).toNat : Int)).bind fun d => bif !d then some (Sum.inl ()) else some (Sum.inr ())
              else none
            else some (Sum.inr ())
      else none
    else
      bif decide ((k : Int) < (b.length : Int)) then
        if (0 : Int) ≤ (k : Int) ∧ (k : Int) < (b.length : Int) then
          (version_digit ((b.getD (Int.toNat (k : Int)) 0).toNat : Int)).bind fun d => bif !d then some (Sum.inl ()) else some (Sum.inr ())
        else none
      else some (Sum.inr ())) = (some (if hdnd (a.drop i) || hdnd (b.drop k) then .inl () else .inr ()) : Option (Unit ⊕ Unit)) := by
    rcases h1 : a.drop i with _ | ⟨x, r⟩ <;> rcases h2 : b.drop k with _ | ⟨y, r'⟩
    · have := drop_nil h1; have := drop_nil h2
      simp [natlt, show ¬ i < a.length by omega, show ¬ k < b.length by omega, hdnd]
    · have g1 := drop_nil h1
      obtain ⟨g2, g3, _⟩ := drop_cons h2 0
      simp only [natlt, show ¬ i < a.length by omega, g2, decide_true, decide_false, cond_true, cond_false, Int.natCast_nonneg, true_and, if_true, Int.toNat_natCast, g3, digit_eq, Option.bind_some, hdnd, nd]
      by_cases q : isD y = true <;> simp [q]
    · have g1 := drop_nil h2
      obtain ⟨g2, g3, _⟩ := drop_cons h1 0
      simp only [natlt, show ¬ k < b.length by omega, g2, decide_true, decide_false, cond_true, cond_false, Int.natCast_nonneg, true_and, if_true, Int.toNat_natCast, g3, digit_eq, Option.bind_some, hdnd, nd]
      by_cases q : isD x = true <;> simp [q]
    · obtain ⟨g1, g4, _⟩ := drop_cons h1 0
      obtain ⟨g2, g3, _⟩ := drop_cons h2 0
      simp only [natlt, g1, g2, decide_true, decide_false, cond_true, cond_false, Int.natCast_nonneg, true_and, if_true, Int.toNat_natCast, g3, g4, digit_eq, Option.bind_some, hdnd, nd]
      by_cases q : isD x = true <;> by_cases q2 : isD y = true <;> simp [q, q2]
  simp only [hc, Option.bind_some]
  by_cases hh : (hdnd (a.drop i) || hdnd (b.drop k)) = true
  · rw [if_pos hh, if_pos hh]
    simp only [Sum.elim_inl, weight_eq, cmpInt_eq, Option.bind_some]
    by_cases c1 : wtAt (a.drop i) < wtAt (b.drop k)
    · simp [c1]
    · by_cases c2 : wtAt (b.drop k) < wtAt (a.drop i)
      · simp [c1, c2]
      · obtain ⟨n1, n2⟩ := in_lt _ _ hh (by omega)
        have l1 : i < a.length := by
          rcases Nat.lt_or_ge i a.length with h | h
          · exact h
          · exact absurd (List.drop_eq_nil_of_le h) n1
        have l2 : k < b.length := by
          rcases Nat.lt_or_ge k b.length with h | h
          · exact h
          · exact absurd (List.drop_eq_nil_of_le h) n2
        have e1 : IntKind.wrap IntKind.i64 ((i : Int) + 1) = ((i + 1 : Nat) : Int) := by rw [w64 (by omega) (by omega)]; omega
        have e2 : IntKind.wrap IntKind.i64 ((k : Int) + 1) = ((k + 1 : Nat) : Int) := by rw [w64 (by omega) (by omega)]; omega
        simp only [e1, e2]
        simp [c1, c2]
  · rw [if_neg hh, if_neg hh]; rfl

theorem in_loop (a b : List UInt8) (ha : a.length < 9223372036854775808) (hb : b.length < 9223372036854775808) : ∀ (r : List UInt8) (i k : Nat), a.drop i = r → i ≤ a.length → k ≤ b.length →
    iter (version_Order_b0 a b) ((i : Int), (k : Int)) = some (if wordsC (word (a.drop i)) (word (b.drop k)) = 0 then .inr (((i + (word (a.drop i)).length : Nat) : Int), ((k + (word (b.drop k)).length : Nat) : Int)) else .inl (wordsC (word (a.drop i)) (word (b.drop k)))) := by
  intro r
  induction r with
  | nil =>
    intro i k h hi hk
    have hbody := in_body a b i k ha hb
    rw [h] at hbody ⊢
    rcases h2 : b.drop k with _ | ⟨y, r'⟩
    · rw [h2] at hbody
      rw [iter_inr (t := .inr ((i : Int), (k : Int))) (by rw [hbody]; rfl)]
      simp [word, wordsC, cmpL_nil]
    · rw [h2] at hbody
      cases hy : nd y
      · rw [iter_inr (t := .inr ((i : Int), (k : Int))) (by rw [hbody]; simp [hdnd, hy])]
        simp [word, wordsC, cmpL_nil, hy]
      · have hy' : isD y = false := by simpa [nd] using hy
        have hw := wt_ne y
        have e : wordsC (word []) (word (y :: r')) = if 0 < wt y then -1 else 1 := by
          simp only [word, wordsC, List.takeWhile_nil, List.takeWhile_cons, hy, if_true, List.map_nil, List.map_cons]
          rw [cmpL_step]
          simp only [List.headD_nil, List.headD_cons]
          by_cases c : 0 < wt y
          · simp [c]
          · simp [c, show wt y < 0 by omega]
        rw [iter_inr (t := .inl (if 0 < wt y then -1 else 1)), e]
        · split <;> simp
        · rw [hbody]
          simp only [hdnd, hy, Bool.or_true, Bool.false_or, if_true, wtAt, hy', Bool.false_eq_true, if_false]
          by_cases c : 0 < wt y
          · simp [c]
          · simp [c, show wt y < 0 by omega]
  | cons x r ih =>
    intro i k h hi hk
    obtain ⟨g1, _, g2⟩ := drop_cons h 0
    have hbody := in_body a b i k ha hb
    cases hx : nd x
    · have hx' : isD x = true := by simpa [nd] using hx
      rw [h] at hbody ⊢
      rcases h2 : b.drop k with _ | ⟨y, r'⟩
      · rw [h2] at hbody
        rw [iter_inr (t := .inr ((i : Int), (k : Int))) (by rw [hbody]; simp [hdnd, hx])]
        simp [word, wordsC, cmpL_nil, hx]
      · rw [h2] at hbody
        cases hy : nd y
        · rw [iter_inr (t := .inr ((i : Int), (k : Int))) (by rw [hbody]; simp [hdnd, hy, hx])]
          simp [word, wordsC, cmpL_nil, hy, hx]
        · have hy' : isD y = false := by simpa [nd] using hy
          have hw := wt_ne y
          have e : wordsC (word (x :: r)) (word (y :: r')) = if 0 < wt y then -1 else 1 := by
            simp only [word, wordsC, List.takeWhile_cons, hy, hx, if_true, Bool.false_eq_true, if_false, List.map_nil, List.map_cons]
            rw [cmpL_step]
            simp only [List.headD_nil, List.headD_cons]
            by_cases c : 0 < wt y
            · simp [c]
            · simp [c, show wt y < 0 by omega]
          rw [iter_inr (t := .inl (if 0 < wt y then -1 else 1)), e]
          · split <;> simp
          · rw [hbody]
            simp only [hdnd, hy, hx, Bool.or_true, Bool.false_or, if_true, wtAt, hy', hx', Bool.false_eq_true, if_false]
            by_cases c : 0 < wt y
            · simp [c]
            · simp [c, show wt y < 0 by omega]
    · have hx' : isD x = false := by simpa [nd] using hx
      have hw := wt_ne x
      rcases h2 : b.drop k with _ | ⟨y, r'⟩
      · rw [h, h2] at hbody
        rw [h]
        have e : wordsC (word (x :: r)) (word []) = if wt x < 0 then -1 else 1 := by
          simp only [word, wordsC, List.takeWhile_nil, List.takeWhile_cons, hx, if_true, List.map_nil, List.map_cons]
          rw [cmpL_step]
          simp only [List.headD_nil, List.headD_cons]
          by_cases c : wt x < 0
          · simp [c]
          · simp [c, show 0 < wt x by omega]
        rw [iter_inr (t := .inl (if wt x < 0 then -1 else 1)), e]
        · split <;> simp
        · rw [hbody]
          simp only [hdnd, hx, Bool.or_false, if_true, wtAt, hx', Bool.false_eq_true, if_false]
          by_cases c : wt x < 0
          · simp [c]
          · simp [c, show 0 < wt x by omega]
      · obtain ⟨g3, _, g4⟩ := drop_cons h2 0
        cases hy : nd y
        · have hy' : isD y = true := by simpa [nd] using hy
          rw [h, h2] at hbody
          rw [h]
          have e : wordsC (word (x :: r)) (word (y :: r')) = if wt x < 0 then -1 else 1 := by
            simp only [word, wordsC, List.takeWhile_nil, List.takeWhile_cons, hx, hy, if_true, Bool.false_eq_true, if_false, List.map_nil, List.map_cons]
            rw [cmpL_step]
            simp only [List.headD_nil, List.headD_cons]
            by_cases c : wt x < 0
            · simp [c]
            · simp [c, show 0 < wt x by omega]
          rw [iter_inr (t := .inl (if wt x < 0 then -1 else 1)), e]
          · split <;> simp
          · rw [hbody]
            simp only [hdnd, hx, hy, Bool.or_false, if_true, wtAt, hx', hy', Bool.false_eq_true, if_false]
            by_cases c : wt x < 0
            · simp [c]
            · simp [c, show 0 < wt x by omega]
        · have hy' : isD y = false := by simpa [nd] using hy
          have e : wordsC (word (x :: r)) (word (y :: r')) = if wt x < wt y then -1 else if wt y < wt x then 1 else wordsC (word r) (word r') := by
            simp only [word, wordsC, List.takeWhile_cons, hx, hy, if_true, List.map_cons, cmpL_cons]
          have hlen : (word (x :: r)).length = (word r).length + 1 := by simp [word, List.takeWhile_cons, hx]
          have hlen' : (word (y :: r')).length = (word r').length + 1 := by simp [word, List.takeWhile_cons, hy]
          rw [h, h2] at hbody
          simp only [hdnd, hx, hy, Bool.or_self, if_true, wtAt, hx', hy', Bool.false_eq_true, if_false] at hbody
          rw [h]
          by_cases c1 : wt x < wt y
          · rw [if_pos c1] at hbody
            rw [iter_inr hbody, e, if_pos c1]
            simp
          · by_cases c2 : wt y < wt x
            · rw [if_neg c1, if_pos c2] at hbody
              rw [iter_inr hbody, e, if_neg c1, if_pos c2]
              simp
            · rw [if_neg c1, if_neg c2] at hbody
              rw [iter_inl hbody, ih (i + 1) (k + 1) g2 (by omega) (by omega), e, if_neg c1, if_neg c2, g2, g4, hlen, hlen']
              simp only [Nat.add_assoc, Nat.add_comm 1]

theorem order_loop (a b : List UInt8) (ha : a.length < 9223372036854775808) (hb : b.length < 9223372036854775808) : ∀ (n i k : Nat), (a.length - i) + (b.length - k) ≤ n → i ≤ a.length → k ≤ b.length →
    iter (version_Order_b1 a b) ((i : Int), (k : Int)) = some (if ordC (a.drop i) (b.drop k) = 0 then .inr () else .inl (ordC (a.drop i) (b.drop k))) := by
  intro n
  induction n with
  | zero =>
    intro i k h hi hk
    have e1 : a.drop i = [] := List.drop_eq_nil_of_le (by omega)
    have e2 : b.drop k = [] := List.drop_eq_nil_of_le (by omega)
    rw [e1, e2, iter_inr (t := .inr ())]
    · simp [ordC, cmpL_self]
    · unfold version_Order_b1
      simp [show ¬ i < a.length by omega, show ¬ k < b.length by omega]
  | succ n ih =>
    intro i k h hi hk
    by_cases hend : a.length ≤ i ∧ b.length ≤ k
    · exact ih i k (by omega) hi hk
    · have p1 := drop_takeWhile nd a i
      have p2 := drop_takeWhile nd b k
      have f1 := takeWhile_fits nd a i hi
      have f2 := takeWhile_fits nd b k hk
      have q1 := drop_takeWhile isD a (i + ((a.drop i).takeWhile nd).length)
      have q2 := drop_takeWhile isD b (k + ((b.drop k).takeWhile nd).length)
      have g1 := takeWhile_fits isD a _ f1
      have g2 := takeWhile_fits isD b _ f2
      have n1 := number_eq a (by omega) _ f1
      have n2 := number_eq b (by omega) _ f2
      have w := in_loop a b (by omega) (by omega) _ i k rfl hi hk
      simp only [word] at w
      rw [p1] at q1 g1 n1
      rw [p2] at q2 g2 n2
      have hbody : version_Order_b1 a b ((i : Int), (k : Int)) = some (if wordsC (word (a.drop i)) (word (b.drop k)) ≠ 0 then .inr (.inl (wordsC (word (a.drop i)) (word (b.drop k)))) else if numC (numb (a.drop i)) (numb (b.drop k)) ≠ 0 then .inr (.inl (numC (numb (a.drop i)) (numb (b.drop k)))) else
          .inl (((i + ((a.drop i).takeWhile nd).length + (((a.drop i).dropWhile nd).takeWhile isD).length : Nat) : Int), ((k + ((b.drop k).takeWhile nd).length + (((b.drop k).dropWhile nd).takeWhile isD).length : Nat) : Int))) := by
        unfold version_Order_b1
        have hc : (bif decide ((i : Int) < (a.length : Int)) then some (Sum.inl ()) else bif decide ((k : Int) < (b.length : Int)) then some (Sum.inl ()) else some (Sum.inr ())) = (some (Sum.inl ()) : Option (Unit ⊕ Unit)) := by
          by_cases h1 : i < a.length
          · simp [h1]
          · simp [h1, show k < b.length by omega]
        simp only [hc]
        simp only [Option.bind_some, Sum.elim_inl, w, word]
        by_cases c1 : wordsC ((a.drop i).takeWhile nd) ((b.drop k).takeWhile nd) = 0
        · simp only [c1, if_true, Option.bind_some, Sum.elim_inr, n1, n2, ne_eq, not_true_eq_false, if_false, cmpInt_eq, cmpString_eq]
          show (bif decide (numb (a.drop i) = numb (b.drop k)) then _ else _) = _
          simp only [show ((((a.drop i).dropWhile nd).takeWhile isD).dropWhile is0) = numb (a.drop i) from rfl, show ((((b.drop k).dropWhile nd).takeWhile isD).dropWhile is0) = numb (b.drop k) from rfl, numC, natlt]
          generalize numb (a.drop i) = x
          generalize numb (b.drop k) = y
          by_cases c2 : x = y
          · subst c2
            have := @cmpS_zero x x
            simp [this.mpr rfl]
          · have c3 : cmpS x y ≠ 0 := fun c => c2 (cmpS_zero.mp c)
            by_cases c4 : x.length < y.length
            · simp [c2, c4]
            · by_cases c5 : y.length < x.length
              · simp [c2, c4, c5]
              · simp [c2, c3, c4, c5]
        · simp only [c1, if_false, Option.bind_some, Sum.elim_inl, ne_eq, not_false_eq_true, if_true]
      rw [ord_step]
      by_cases c1 : wordsC (word (a.drop i)) (word (b.drop k)) = 0
      · by_cases c2 : numC (numb (a.drop i)) (numb (b.drop k)) = 0
        · simp only [c1, c2, ne_eq, not_true_eq_false, if_false] at hbody ⊢
          have hr1 : rest (a.drop i) = a.drop (i + ((a.drop i).takeWhile nd).length + (((a.drop i).dropWhile nd).takeWhile isD).length) := q1.symm
          have hr2 : rest (b.drop k) = b.drop (k + ((b.drop k).takeWhile nd).length + (((b.drop k).dropWhile nd).takeWhile isD).length) := q2.symm
          have hle : ∀ s : List UInt8, (rest s).length ≤ s.length := fun s => by
            by_cases hs : s = []
            · subst hs; exact Nat.le_refl _
            · exact Nat.le_of_lt (rest_lt hs)
          have l1 := hle (a.drop i)
          have l2 := hle (b.drop k)
          have hlt : (rest (a.drop i)).length + (rest (b.drop k)).length < (a.drop i).length + (b.drop k).length := by
            by_cases hs : a.drop i = []
            · have hs2 : b.drop k ≠ [] := by
                intro hs2
                have := drop_nil hs; have := drop_nil hs2; omega
              have := rest_lt hs2
              omega
            · have := rest_lt hs
              omega
          rw [hr1, hr2] at hlt
          simp only [List.length_drop] at hlt
          rw [iter_inl hbody, ih _ _ (by omega) (by omega) (by omega), hr1, hr2]
        · simp only [c1, c2, ne_eq, not_true_eq_false, not_false_eq_true, if_false, if_true] at hbody ⊢
          rw [iter_inr hbody]
      · simp only [c1, ne_eq, not_false_eq_true, if_true] at hbody ⊢
        rw [iter_inr hbody]
        simp

theorem order_eq (a b : List UInt8) (ha : a.length < 9223372036854775808) (hb : b.length < 9223372036854775808) : version_Order a b = some (ordC a b) := by
  unfold version_Order
  have := order_loop a b ha hb _ 0 0 (Nat.le_refl _) (by omega) (by omega)
  rw [show ((0 : Int)) = ((0 : Nat) : Int) from rfl, this]
  simp only [List.drop_zero]
  by_cases c : ordC a b = 0 <;> simp [c]

theorem ordC_swap (a b : List UInt8) : ordC b a = - ordC a b := cmpL_swap _ _ _ (Nat.le_refl _)

theorem ordC_range (a b : List UInt8) : ordC a b = -1 ∨ ordC a b = 0 ∨ ordC a b = 1 := cmpL_range _ _ _ (Nat.le_refl _)

end Go.Cellar
