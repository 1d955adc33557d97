/- A path's one form, by plain lists. No condition. -/
import Derived.Test.YtjdjmbogopadaaaGreatDoorPl12b
set_option linter.unusedSimpArgs false
set_option linter.unusedVariables false
namespace Go.Cellar
open Go

def cstep (left : List (List UInt8)) (p : List UInt8) : List (List UInt8) := if p = [46] then left else if p = [46, 46] then left.dropLast else left ++ [p]
def leftV (l : List (List UInt8)) : List (List UInt8) := l.foldl cstep []
def joinedV (l : List (List UInt8)) : List UInt8 := if l = [] then [47] else l.flatMap fun x => 47 :: x
def plainC (c : UInt8) : Bool := decide (33 ≤ c.toNat) && decide (c.toNat ≤ 126)
def plainV (s : List UInt8) : Bool := s.all plainC && decide (s.take 1 = [47])
def cleanV (s : List UInt8) : List UInt8 × Int :=
  if plainV s = true then (if 200 < (joinedV (leftV (partsV s))).length then ([], 8) else (joinedV (leftV (partsV s)), 0)) else ([], 1)

/-! ### lengths -/

def tot (l : List (List UInt8)) : Nat := (l.map fun x => x.length + 1).sum

theorem tot_append (a b : List (List UInt8)) : tot (a ++ b) = tot a + tot b := by simp [tot]
theorem tot_cons (x : List UInt8) (b : List (List UInt8)) : tot (x :: b) = x.length + 1 + tot b := by simp [tot]
theorem len_tot : ∀ l : List (List UInt8), l.length ≤ tot l := by
  intro l
  induction l with
  | nil => simp [tot]
  | cons x l ih => rw [tot_cons]; simp; omega

theorem tot_pieces : ∀ (s acc : List UInt8), tot (pieces s acc) = s.length + acc.length + 1 := by
  intro s
  induction s with
  | nil => intro acc; simp [pieces, tot]
  | cons c r ih =>
    intro acc
    simp only [pieces]
    split
    · rw [tot_cons, ih]; simp; omega
    · rw [ih]; simp; omega

theorem tot_filter (p : List UInt8 → Bool) : ∀ l : List (List UInt8), tot (l.filter p) ≤ tot l := by
  intro l
  induction l with
  | nil => simp [tot]
  | cons x l ih =>
    rw [List.filter_cons, tot_cons]
    split
    · rw [tot_cons]; omega
    · omega

theorem tot_dropLast (l : List (List UInt8)) : tot l.dropLast ≤ tot l := by
  by_cases h : l = []
  · subst h; simp
  · conv => rhs; rw [← List.dropLast_concat_getLast h]
    rw [tot_append]; omega

theorem tot_fold : ∀ (l left : List (List UInt8)), tot (l.foldl cstep left) ≤ tot left + tot l := by
  intro l
  induction l with
  | nil => intro left; simp [tot]
  | cons x l ih =>
    intro left
    rw [List.foldl_cons, tot_cons]
    have := ih (cstep left x)
    have h2 : tot (cstep left x) ≤ tot left + (x.length + 1) := by
      unfold cstep
      split
      · omega
      · split
        · have := tot_dropLast left; omega
        · rw [tot_append]; simp [tot]
    omega

theorem tot_parts (s : List UInt8) : tot (partsV s) ≤ s.length + 1 := by
  have := tot_filter full (pieces s [])
  rw [tot_pieces] at this
  exact this

theorem tot_left (s : List UInt8) : tot (leftV (partsV s)) ≤ s.length + 1 := by
  have := tot_fold (partsV s) []
  have := tot_parts s
  unfold leftV
  simp [tot] at *
  omega

theorem flat_len : ∀ l : List (List UInt8), (l.flatMap fun x => (47 : UInt8) :: x).length = tot l := by
  intro l
  induction l with
  | nil => simp [tot]
  | cons x l ih => rw [List.flatMap_cons, List.length_append, ih, tot_cons]; simp

theorem joinedV_len (l : List (List UInt8)) : (joinedV l).length ≤ tot l + 1 := by
  unfold joinedV
  split
  · simp
  · rw [flat_len]; omega

/-! ### the loops -/

theorem c0 : ((0 : Nat) : Int) = 0 := rfl

theorem dropLast_take {α : Type} (l : List α) : l.take (l.length - 1) = l.dropLast := by rw [List.dropLast_eq_take]

theorem clean_loop (l : List (List UInt8)) (hl : l.length < 1000001) : ∀ (r : List (List UInt8)) (k : Nat) (left : List (List UInt8)), l.drop k = r → left.length ≤ k →
    iter (path_Clean_b0 ((l.length : Int) - 0) l) ((k : Int), left) = some (r.foldl cstep left) := by
  intro r
  induction r with
  | nil =>
    intro k left h ho
    have := drop_nil h
    rw [iter_inr (t := left)]
    · rfl
    · unfold path_Clean_b0
      simp [show ¬ k < l.length by omega]
  | cons x r ih =>
    intro k left h ho
    obtain ⟨g1, g2, g3⟩ := drop_cons h []
    have hlen : (cstep left x).length ≤ k + 1 := by
      unfold cstep
      split
      · omega
      · split
        · simp; omega
        · simp; omega
    rw [iter_inl (s' := (((k + 1 : Nat) : Int), cstep left x)), ih (k + 1) _ g3 hlen, List.foldl_cons]
    unfold path_Clean_b0
    simp only [c0, Int.sub_zero, Int.add_zero, natlt, g1, decide_true, cond_true, Int.natCast_nonneg, true_and, Int.toNat_natCast, Nat.zero_add, if_true, g2, kplus g1 (by omega)]
    unfold cstep
    by_cases h1 : x = [46]
    · simp [h1]
    · by_cases h2 : x = [46, 46]
      · have e : IntKind.wrap IntKind.i64 ((if (1 : Int) > (left.length : Int) then (1 : Int) else (left.length : Int)) - 1) = ((left.length - 1 : Nat) : Int) := by
          rw [w64 (by split <;> omega) (by split <;> omega)]
          split <;> omega
        simp only [h1, decide_false, cond_false, if_false, e, Int.toNat_natCast, dropLast_take]
        simp only [h2, decide_true, cond_true, if_true]
        rw [if_pos (by omega)]
      · simp only [h1, h2, decide_false, cond_false, if_false, List.drop_zero, List.length_cons, List.length_nil]
        rw [if_pos (by omega)]

theorem refClean_loop (l : List (List UInt8)) (hl : l.length < 1000001) : ∀ (r : List (List UInt8)) (k : Nat) (left : List (List UInt8)), l.drop k = r → left.length ≤ k →
    iter (cellarerref02_Clean_b1 l) ((k : Int), left) = some (r.foldl cstep left) := by
  intro r
  induction r with
  | nil =>
    intro k left h ho
    have := drop_nil h
    rw [iter_inr (t := left)]
    · rfl
    · unfold cellarerref02_Clean_b1
      simp [show ¬ k < l.length by omega]
  | cons x r ih =>
    intro k left h ho
    obtain ⟨g1, g2, g3⟩ := drop_cons h []
    have hlen : (cstep left x).length ≤ k + 1 := by
      unfold cstep
      split
      · omega
      · split
        · simp; omega
        · simp; omega
    rw [iter_inl (s' := (((k + 1 : Nat) : Int), cstep left x)), ih (k + 1) _ g3 hlen, List.foldl_cons]
    unfold cellarerref02_Clean_b1
    simp only [c0, Int.sub_zero, Int.add_zero, natlt, g1, decide_true, cond_true, Int.natCast_nonneg, true_and, Int.toNat_natCast, Nat.zero_add, if_true, g2, kplus g1 (by omega)]
    unfold cstep
    by_cases h1 : x = [46]
    · simp [h1]
    · by_cases h2 : x = [46, 46]
      · by_cases h3 : left = []
        · subst h3
          simp [h1, h2]
        · have hp : 0 < left.length := List.length_pos_iff.mpr h3
          have e : IntKind.wrap IntKind.i64 ((left.length : Int) - 1) = ((left.length - 1 : Nat) : Int) := by
            rw [w64 (by omega) (by omega)]; omega
          have hd : decide ((0 : Int) < (left.length : Int)) = true := by simp; omega
          simp only [h1, hd, if_false, e, Int.toNat_natCast, dropLast_take]
          simp only [h2, decide_true, cond_true, if_true]
          rw [if_pos (by omega)]
      · simp only [h1, h2, decide_false, Bool.not_false, cond_false, cond_true, if_false, List.drop_zero, List.length_cons, List.length_nil]
        rw [if_pos (by omega)]

theorem joined_loop (l : List (List UInt8)) (hl : tot l < 2000002) : ∀ (r : List (List UInt8)) (k : Nat) (t : List UInt8), l.drop k = r → t.length + tot r ≤ 2000002 →
    iter (cellarerref02_Joined_b0 l) (t, (k : Int)) = some (t ++ r.flatMap fun x => 47 :: x) := by
  intro r
  have hlen := len_tot l
  induction r with
  | nil =>
    intro k t h ho
    have := drop_nil h
    rw [iter_inr (t := t)]
    · simp
    · unfold cellarerref02_Joined_b0
      simp [show ¬ k < l.length by omega]
  | cons x r ih =>
    intro k t h ho
    obtain ⟨g1, g2, g3⟩ := drop_cons h []
    rw [tot_cons] at ho
    rw [iter_inl (s' := (t ++ [47] ++ x, ((k + 1 : Nat) : Int))), ih (k + 1) _ g3 (by simp; omega)]
    · simp
    · unfold cellarerref02_Joined_b0
      simp only [natlt, g1, decide_true, cond_true, Int.natCast_nonneg, true_and, if_true, Int.toNat_natCast, g2, kplus g1 (by omega)]
      rw [if_pos (by simp; omega), if_pos (by simp; omega)]

theorem refJoined_eq (l : List (List UInt8)) (hl : tot l < 2000002) : cellarerref02_Joined l = some (joinedV l) := by
  unfold cellarerref02_Joined joinedV
  by_cases h : l = []
  · subst h; rfl
  · have hp : 0 < l.length := List.length_pos_iff.mpr h
    simp only [show ¬ ((l.length : Int) = 0) by omega, decide_false, cond_false, h, if_false]
    rw [show ((0 : Int)) = ((0 : Nat) : Int) from rfl, joined_loop l hl l 0 [] rfl (by simp; omega)]
    simp

theorem join_flat : ∀ (r : List (List UInt8)), Lib.joinTail [47] r = r.flatMap fun x => 47 :: x := by
  intro r
  simp [Lib.joinTail, List.flatMap]

theorem sjoin_eq (l : List (List UInt8)) (hl : tot l < 2000002) : ∃ t, strings_Join l [47] = some t ∧ [47] ++ t = joinedV l ∧ t.length ≤ 2000002 := by
  have h1 := joinedV_len l
  have hlen := len_tot l
  have hj : [47] ++ Lib.join l [47] = joinedV l := by
    unfold joinedV
    cases l with
    | nil => simp [Lib.join_nil]
    | cons x r =>
      rw [Lib.join_cons, join_flat]
      simp
  have h2 : (Lib.join l [47]).length ≤ 2000002 := by
    have := congrArg List.length hj
    simp at this
    omega
  refine ⟨_, ?_, hj, h2⟩
  unfold strings_Join
  rw [if_pos (by omega)]

/-! ### the one form -/

theorem il33 (n : Nat) : ((n : Int) < (33 : Int)) = ¬ (33 ≤ n) := propext (by omega)
theorem il126 (n : Nat) : ((126 : Int) < (n : Int)) = ¬ (n ≤ 126) := propext (by omega)

theorem allFrom_const {α : Type} (p : α → Bool) : ∀ (r : List α) (k : Nat), allFrom (fun _ => p) k r = r.all p := by
  intro r
  induction r with
  | nil => intro k; rfl
  | cons c r ih => intro k; simp [allFrom, ih]

theorem plain_eq (s : List UInt8) (hs : s.length < 1000000) : path_plain s = some (plainV s) := by
  unfold path_plain plainV
  have := all_loop (path_plain_b0 s (s.length : Int)) (fun _ => plainC) s (fun k hk => by
      unfold path_plain_b0
      simp [show ¬ k < s.length by omega]) (fun k c r h => by
      unfold path_plain_b0
      obtain ⟨g1, g2, _⟩ := drop_cons h 0
      simp only [natlt, g1, decide_true, cond_true, Int.natCast_nonneg, true_and, if_true, Int.toNat_natCast, g2, kplus g1 (by omega), il33, il126, plainC]
      by_cases h1 : 33 ≤ c.toNat <;> by_cases h2 : c.toNat ≤ 126 <;> simp [h1, h2]) s 0 rfl
  rw [show ((0 : Int)) = ((0 : Nat) : Int) from rfl, this, allFrom_const]
  cases s.all plainC
  · rfl
  · simp [hasPrefix_eq]

theorem clean_eq (s : List UInt8) (hs : s.length < 1000000) : path_Clean s = some (cleanV s) := by
  unfold path_Clean cleanV
  rw [plain_eq s hs]
  by_cases hp : plainV s = true
  · have ht := tot_parts s
    have ht2 := tot_left s
    have hl := len_tot (partsV s)
    obtain ⟨t, h1, h2, h3⟩ := sjoin_eq (leftV (partsV s)) (by omega)
    simp only [hp, Option.bind_some, Bool.not_true, cond_false, parts_eq s hs, if_true]
    rw [show (((partsV s).length : Int) - ((0 : Nat) : Int)) = (((partsV s).length : Int) - 0) from rfl, show ((0 : Int), ([] : List (List UInt8))) = (((0 : Nat) : Int), ([] : List (List UInt8))) from rfl, clean_loop (partsV s) (by omega) _ 0 [] rfl (by simp)]
    simp only [Option.bind_some, List.drop_zero]
    rw [show List.foldl cstep [] (partsV s) = leftV (partsV s) from rfl, h1]
    simp only [Option.bind_some, h2]
    rw [if_pos (by simp; omega)]
    have e : ((200 : Int) < ((joinedV (leftV (partsV s))).length : Int)) = (200 < (joinedV (leftV (partsV s))).length) := propext (by omega)
    simp only [e]
    by_cases c : 200 < (joinedV (leftV (partsV s))).length <;> simp [c]
  · have hf : plainV s = false := by simpa using hp
    simp [hf]

theorem refClean_eq (s : List UInt8) (hs : s.length < 1000000) : cellarerref02_Clean s = some (cleanV s) := by
  unfold cellarerref02_Clean cleanV plainV
  have hall := all_loop (cellarerref02_Clean_b0 s) (fun _ => plainC) s (fun k hk => by
      unfold cellarerref02_Clean_b0
      simp [show ¬ k < s.length by omega]) (fun k c r h => by
      unfold cellarerref02_Clean_b0
      obtain ⟨g1, g2, _⟩ := drop_cons h 0
      simp only [natlt, g1, decide_true, cond_true, Int.natCast_nonneg, true_and, if_true, Int.toNat_natCast, g2, kplus g1 (by omega), il33, il126, plainC]
      by_cases h1 : 33 ≤ c.toNat <;> by_cases h2 : c.toNat ≤ 126 <;> simp [h1, h2]) s 0 rfl
  rw [allFrom_const] at hall
  cases s with
  | nil => rfl
  | cons c r =>
    simp only [u8_47, show ¬ (((c :: r).length : Int) = 0) by simp; omega, decide_false, cond_false]
    rw [if_pos (by simp), show List.getD (c :: r) (Int.toNat (0 : Int)) 0 = c from rfl]
    by_cases hc : c = 47
    · subst hc
      have ht := tot_parts (47 :: r)
      have ht2 := tot_left (47 :: r)
      have hl := len_tot (partsV (47 :: r))
      have hlc := refClean_loop (partsV (47 :: r)) (by omega) _ 0 [] rfl (by simp)
      simp only [decide_true, Bool.not_true, cond_false, Option.bind_some, Sum.elim_inr]
      rw [show ((0 : Int)) = ((0 : Nat) : Int) from rfl, hall]
      cases ha : (47 :: r).all plainC
      · simp [ha]
      · simp only [if_true, Option.bind_some, Sum.elim_inr, refParts_eq _ hs]
        rw [hlc]
        simp only [Option.bind_some, List.drop_zero]
        rw [show List.foldl cstep [] (partsV (47 :: r)) = leftV (partsV (47 :: r)) from rfl, refJoined_eq _ (by omega)]
        have e : ((200 : Int) < ((joinedV (leftV (partsV (47 :: r)))).length : Int)) = (200 < (joinedV (leftV (partsV (47 :: r)))).length) := propext (by omega)
        simp only [Option.bind_some, e]
        by_cases c : 200 < (joinedV (leftV (partsV (47 :: r)))).length <;> simp [c]
    · simp [hc]

def rightV (s : List UInt8) : Bool := decide ((cleanV s).2 = 0) && decide ((cleanV s).1 = s)

theorem right_eq (s : List UInt8) (hs : s.length < 1000000) : path_Right s = some (rightV s) := by
  unfold path_Right rightV
  rw [clean_eq s hs]
  by_cases h : (cleanV s).2 = 0 <;> simp [h]

theorem refRight_eq (s : List UInt8) (hs : s.length < 1000000) : cellarerref02_Right s = some (rightV s) := by
  unfold cellarerref02_Right rightV
  rw [refClean_eq s hs]
  by_cases h : (cleanV s).2 = 0 <;> simp [h]

end Go.Cellar
