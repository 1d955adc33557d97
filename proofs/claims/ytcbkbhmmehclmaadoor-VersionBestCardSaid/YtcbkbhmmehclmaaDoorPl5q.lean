/- Both orders of two texts are the keys' order. No condition. -/
import Derived.Test.YtcbkbhmmehclmaaDoorPl5p
set_option linter.unusedSimpArgs false
namespace Go.Cellar
open Go

/-! ### places that a test skips -/

/-- A loop that goes on as long as a test holds. -/
theorem skip_loop (B : Int → Option (Int ⊕ Int)) (p : UInt8 → Bool) (s : List UInt8)
    (hstop : ∀ k : Nat, (∀ c r, s.drop k = c :: r → p c = false) → B (k : Int) = some (.inr (k : Int)))
    (hgo : ∀ (k : Nat) (c : UInt8) (r : List UInt8), s.drop k = c :: r → p c = true → B (k : Int) = some (.inl ((k + 1 : Nat) : Int))) :
    ∀ (r : List UInt8) (k : Nat), s.drop k = r → iter B (k : Int) = some ((k + (r.takeWhile p).length : Nat) : Int) := by
  intro r
  induction r with
  | nil =>
    intro k h
    rw [iter_inr (hstop k (fun c r hc => by rw [h] at hc; cases hc))]
    rfl
  | cons x r ih =>
    intro k h
    by_cases hx : p x = true
    · rw [iter_inl (hgo k x r h hx), ih (k + 1) (drop_cons h 0).2.2]
      simp [List.takeWhile_cons, hx]
      omega
    · rw [iter_inr (hstop k (fun c r' hc => by rw [h] at hc; cases hc; simpa using hx))]
      simp [List.takeWhile_cons, hx]

theorem take_drop_takeWhile {α : Type} (p : α → Bool) (s : List α) (k : Nat) : (s.take (k + ((s.drop k).takeWhile p).length)).drop k = (s.drop k).takeWhile p := by
  rw [List.drop_take, Nat.add_sub_cancel_left]
  conv => lhs; arg 2; rw [← List.takeWhile_append_dropWhile (p := p) (l := s.drop k)]
  rw [List.take_left]

theorem drop_takeWhile {α : Type} (p : α → Bool) (s : List α) (k : Nat) : s.drop (k + ((s.drop k).takeWhile p).length) = (s.drop k).dropWhile p := by
  rw [← List.drop_drop]
  conv => lhs; arg 2; rw [← List.takeWhile_append_dropWhile (p := p) (l := s.drop k)]
  rw [List.drop_left]

theorem takeWhile_fits {α : Type} (p : α → Bool) (s : List α) (k : Nat) (h : k ≤ s.length) : k + ((s.drop k).takeWhile p).length ≤ s.length := by
  have := (List.takeWhile_sublist p (l := s.drop k)).length_le
  rw [List.length_drop] at this
  omega

/-! ### the reference's pieces -/

theorem piece0 (s : List UInt8) (hs : s.length < 4611686018427387904) (k : Nat) : iter (cellarerref05_piece_b0 s) (k : Int) = some ((k + ((s.drop k).takeWhile nd).length : Nat) : Int) := by
  refine skip_loop _ nd s ?_ ?_ _ k rfl
  · intro k h
    unfold cellarerref05_piece_b0
    rcases hd : s.drop k with _ | ⟨c, r⟩
    · have := drop_nil hd
      simp [natlt, this, show ¬ k < s.length by omega]
    · obtain ⟨h1, h2, h3⟩ := drop_cons hd 0
      have := h c r hd
      simp only [natlt, h1, decide_true, cond_true, Int.natCast_nonneg, true_and, if_true, Int.toNat_natCast, h2, Digit_eq, Option.bind_some]
      simp [nd] at this
      simp [this]
  · intro k c r hd hp
    unfold cellarerref05_piece_b0
    obtain ⟨h1, h2, h3⟩ := drop_cons hd 0
    simp only [natlt, h1, decide_true, cond_true, Int.natCast_nonneg, true_and, if_true, Int.toNat_natCast, h2, Digit_eq, Option.bind_some]
    simp [nd] at hp
    simp [hp]
    rw [w64 (by omega) (by omega)]

theorem piece1 (s : List UInt8) (hs : s.length < 4611686018427387904) (k : Nat) : iter (cellarerref05_piece_b1 s) (k : Int) = some ((k + ((s.drop k).takeWhile isD).length : Nat) : Int) := by
  refine skip_loop _ isD s ?_ ?_ _ k rfl
  · intro k h
    unfold cellarerref05_piece_b1
    rcases hd : s.drop k with _ | ⟨c, r⟩
    · have := drop_nil hd
      simp [natlt, this, show ¬ k < s.length by omega]
    · obtain ⟨h1, h2, h3⟩ := drop_cons hd 0
      have := h c r hd
      simp only [natlt, h1, decide_true, cond_true, Int.natCast_nonneg, true_and, if_true, Int.toNat_natCast, h2, Digit_eq, Option.bind_some]
      simp [this]
  · intro k c r hd hp
    unfold cellarerref05_piece_b1
    obtain ⟨h1, h2, h3⟩ := drop_cons hd 0
    simp only [natlt, h1, decide_true, cond_true, Int.natCast_nonneg, true_and, if_true, Int.toNat_natCast, h2, Digit_eq, Option.bind_some]
    simp [hp]
    rw [w64 (by omega) (by omega)]

theorem number0 (s : List UInt8) (hs : s.length < 4611686018427387904) (k : Nat) : iter (version_number_b0 s) (k : Int) = some ((k + ((s.drop k).takeWhile isD).length : Nat) : Int) := by
  refine skip_loop _ isD s ?_ ?_ _ k rfl
  · intro k h
    unfold version_number_b0
    rcases hd : s.drop k with _ | ⟨c, r⟩
    · have := drop_nil hd
      simp [natlt, this, show ¬ k < s.length by omega]
    · obtain ⟨h1, h2, h3⟩ := drop_cons hd 0
      have := h c r hd
      simp only [natlt, h1, decide_true, cond_true, Int.natCast_nonneg, true_and, if_true, Int.toNat_natCast, h2, digit_eq, Option.bind_some]
      simp [this]
  · intro k c r hd hp
    unfold version_number_b0
    obtain ⟨h1, h2, h3⟩ := drop_cons hd 0
    simp only [natlt, h1, decide_true, cond_true, Int.natCast_nonneg, true_and, if_true, Int.toNat_natCast, h2, digit_eq, Option.bind_some]
    simp [hp]
    rw [w64 (by omega) (by omega)]

def is0 (c : UInt8) : Bool := decide (c.toNat = 48)

theorem piece2 : ∀ (d : List UInt8), iter cellarerref05_piece_b2 d = some (d.dropWhile is0) := by
  intro d
  induction d with
  | nil =>
    rw [iter_inr (t := [])]
    · rfl
    · unfold cellarerref05_piece_b2
      simp
  | cons c r ih =>
    have e : ((c.toNat : Int) = 48) = (c.toNat = 48) := propext (by omega)
    by_cases hc : c.toNat = 48
    · rw [iter_inl (s' := r), ih]
      · simp [List.dropWhile_cons, is0, hc]
      · unfold cellarerref05_piece_b2
        simp [e, hc]
        omega
    · rw [iter_inr (t := c :: r)]
      · simp [List.dropWhile_cons, is0, hc]
      · unfold cellarerref05_piece_b2
        simp [e, hc]

theorem trim0 : ∀ (d : List UInt8), iter (strings_trimLeftByte_b0 48) d = some (d.dropWhile is0) := by
  intro d
  induction d with
  | nil =>
    rw [iter_inr (t := [])]
    · rfl
    · unfold strings_trimLeftByte_b0
      simp
  | cons c r ih =>
    have e : ((c.toNat : Int) = 48) = (c.toNat = 48) := propext (by omega)
    by_cases hc : c.toNat = 48
    · rw [iter_inl (s' := r), ih]
      · simp [List.dropWhile_cons, is0, hc]
      · unfold strings_trimLeftByte_b0
        simp [e, hc]
        omega
    · rw [iter_inr (t := c :: r)]
      · simp [List.dropWhile_cons, is0, hc]
      · unfold strings_trimLeftByte_b0
        simp [e, hc]

theorem TrimLeft5 (d : List UInt8) : strings_TrimLeft d = some (d.dropWhile is0) := by
  unfold strings_TrimLeft strings_trimLeftByte
  by_cases h : d = []
  · subst h; simp
  · simp only [h, decide_false, cond_false, Option.bind_some, Sum.elim_inr]
    rw [show ((List.getD [(48 : UInt8)] (Int.toNat (0 : Int)) (0 : UInt8)).toNat : Int) = 48 from rfl, trim0]
    rfl

theorem piece_eq (s : List UInt8) (hs : s.length < 4611686018427387904) : cellarerref05_piece s = some (word s, numb s, rest s) := by
  unfold cellarerref05_piece
  have h0 := piece0 s hs 0
  have h1 := piece1 s hs (0 + ((s.drop 0).takeWhile nd).length)
  have e1 := drop_takeWhile nd s 0
  have e2 := drop_takeWhile isD s (0 + ((s.drop 0).takeWhile nd).length)
  have e3 := take_drop_takeWhile isD s (0 + ((s.drop 0).takeWhile nd).length)
  have e4 := take_drop_takeWhile nd s 0
  have f1 := takeWhile_fits nd s 0 (by omega)
  have f2 := takeWhile_fits isD s _ f1
  rw [e1] at h1 e2 e3 f2
  rw [show ((0 : Int)) = ((0 : Nat) : Int) from rfl, h0]
  simp only [Option.bind_some]
  rw [h1]
  simp only [Option.bind_some, Int.toNat_natCast, e3, piece2, List.take_length, e2]
  rw [if_pos (by omega), if_pos (by omega), if_pos (by omega), e4]
  rfl

theorem number_eq (s : List UInt8) (hs : s.length < 4611686018427387904) (k : Nat) (hk : k ≤ s.length) : version_number s (k : Int) = some (((s.drop k).takeWhile isD).dropWhile is0, ((k + ((s.drop k).takeWhile isD).length : Nat) : Int)) := by
  unfold version_number
  rw [number0 s hs k]
  have e3 := take_drop_takeWhile isD s k
  have f1 := takeWhile_fits isD s k hk
  simp only [Option.bind_some, Int.toNat_natCast, e3, TrimLeft5]
  rw [if_pos (by omega)]

end Go.Cellar
