/- A path's parts, and its one form. No condition. -/
import Derived.Test.YtapokbncaidgdaaDoorPl19a
set_option linter.unusedSimpArgs false
set_option linter.unusedVariables false
set_option maxRecDepth 4000
namespace Go.Cellar
open Go

/-- The parts between slashes, the first one begun already. -/
def pieces : List UInt8 → List UInt8 → List (List UInt8)
  | [], acc => [acc]
  | c :: r, acc => if c = 47 then acc :: pieces r [] else pieces r (acc ++ [c])

def full (l : List UInt8) : Bool := !decide (l = [])

def partsV (s : List UInt8) : List (List UInt8) := (pieces s []).filter full

theorem slice1 {s : List UInt8} {k : Nat} {c : UInt8} {r : List UInt8} (h : s.drop k = c :: r) : (s.take (k + 1)).drop k = [c] := by
  rw [List.drop_take, h]
  simp

theorem refParts_loop (s : List UInt8) (hs : s.length < 1000000) : ∀ (r : List UInt8) (k : Nat) (acc : List UInt8) (out : List (List UInt8)), s.drop k = r → k + r.length = s.length → acc.length ≤ k → out.length ≤ k →
    ∃ acc' out', iter (cellarerref02_Parts_b0 s) (acc, (k : Int), out) = some (acc', out') ∧ out' ++ (if acc' = [] then [] else [acc']) = out ++ (pieces r acc).filter full ∧ acc'.length ≤ s.length ∧ out'.length ≤ s.length := by
  intro r
  induction r with
  | nil =>
    intro k acc out h hk ha ho
    simp only [List.length_nil] at hk
    refine ⟨acc, out, ?_, ?_, by omega, by omega⟩
    · rw [iter_inr (t := (acc, out))]
      unfold cellarerref02_Parts_b0
      simp [show ¬ k < s.length by omega]
    · simp only [pieces, List.filter_cons, List.filter_nil, full]
      by_cases hacc : acc = [] <;> simp [hacc]
  | cons c r ih =>
    intro k acc out h hk ha ho
    simp only [List.length_cons] at hk
    obtain ⟨g1, g2, g3⟩ := drop_cons h 0
    have hb : cellarerref02_Parts_b0 s (acc, (k : Int), out) = some (.inl (if c = 47 then ([], ((k + 1 : Nat) : Int), if acc = [] then out else out ++ [acc]) else (acc ++ [c], ((k + 1 : Nat) : Int), out))) := by
      unfold cellarerref02_Parts_b0
      simp only [natlt, g1, decide_true, cond_true, Int.natCast_nonneg, true_and, if_true, Int.toNat_natCast, g2, kplus g1 (by omega), u8_47, slice1 h]
      by_cases hc : c = 47
      · by_cases hacc : acc = []
        · simp [hc, hacc]
        · simp only [hc, hacc, decide_true, Bool.not_true, cond_false, decide_false, Bool.not_false, cond_true, if_true, if_false, List.drop_zero, List.length_cons, List.length_nil]
          rw [if_pos (by omega)]
      · simp only [hc, decide_false, Bool.not_false, cond_true, if_false, List.length_cons, List.length_nil]
        rw [if_pos (by omega), if_pos (by omega)]
    rw [iter_inl hb]
    by_cases hc : c = 47
    · rw [if_pos hc]
      obtain ⟨acc', out', h1, h2, h3, h4⟩ := ih (k + 1) [] (if acc = [] then out else out ++ [acc]) g3 (by omega) (by simp) (by split <;> first | omega | (rw [List.length_append]; simp; omega))
      refine ⟨acc', out', h1, ?_, h3, h4⟩
      rw [h2]
      simp only [pieces, hc, if_true, List.filter_cons, full]
      by_cases hacc : acc = [] <;> simp [hacc]
    · rw [if_neg hc]
      obtain ⟨acc', out', h1, h2, h3, h4⟩ := ih (k + 1) (acc ++ [c]) out g3 (by omega) (by simp; omega) (by omega)
      refine ⟨acc', out', h1, ?_, h3, h4⟩
      rw [h2]
      simp only [pieces, hc, if_false]

theorem refParts_eq (s : List UInt8) (hs : s.length < 1000000) : cellarerref02_Parts s = some (partsV s) := by
  unfold cellarerref02_Parts partsV
  obtain ⟨acc, out, h1, h2, h3, h4⟩ := refParts_loop s hs s 0 [] [] rfl (by simp) (by simp) (by simp)
  rw [show ((0 : Int)) = ((0 : Nat) : Int) from rfl, h1]
  simp only [List.nil_append] at h2
  rw [← h2]
  by_cases hacc : acc = []
  · simp [hacc]
  · simp only [Option.bind_some, hacc, decide_false, Bool.not_false, cond_true, if_false, List.drop_zero, List.length_cons, List.length_nil]
    rw [if_pos (by omega)]

theorem index_eq (s : List UInt8) : strings_Index s [47] = some (idxByte 47 s 0) := by
  unfold strings_Index stringslite_Index stringslite_IndexByte
  by_cases h : [47] = s
  · subst h; rfl
  · simp [h]

theorem count_eq (s : List UInt8) : strings_Count s [47] = some ((s.count 47 : Nat) : Int) := by
  unfold strings_Count
  have e : Nat.toUInt8 (Int.toNat (((List.getD [(47 : UInt8)] (Int.toNat (0 : Int)) 0).toNat : Nat) : Int)) = 47 := by decide
  simp only [e, List.length_cons, List.length_nil]
  simp

theorem idx_none (c : Int) : ∀ (l : List UInt8) (i : Int), (∀ x ∈ l, (x.toNat : Int) ≠ c) → idxByte c l i = -1 := by
  intro l
  induction l with
  | nil => intro i _; rfl
  | cons x r ih =>
    intro i h
    simp only [idxByte]
    rw [if_neg (h x (by simp)), ih _ (fun y hy => h y (by simp [hy]))]

theorem idx_split (s : List UInt8) (h : 0 < s.count 47) : ∃ (m : Nat), idxByte 47 s 0 = (m : Int) ∧ m < s.length ∧ (s.drop (m + 1)).count 47 + 1 = s.count 47 ∧ ∀ acc, pieces s acc = (acc ++ s.take m) :: pieces (s.drop (m + 1)) [] := by
  have key : ∀ (s : List UInt8) (i : Nat), 0 < s.count 47 → ∃ (m : Nat), idxByte 47 s (i : Int) = ((i + m : Nat) : Int) ∧ m < s.length ∧ (s.drop (m + 1)).count 47 + 1 = s.count 47 ∧ ∀ acc, pieces s acc = (acc ++ s.take m) :: pieces (s.drop (m + 1)) [] := by
    intro s
    induction s with
    | nil => intro i h; simp at h
    | cons c r ih =>
      intro i h
      by_cases hc : c = 47
      · subst hc
        refine ⟨0, ?_, by simp, by simp, fun acc => by simp [pieces]⟩
        simp only [idxByte]
        rw [if_pos (by decide)]
        simp
      · have hc' : ¬ ((c.toNat : Int) = 47) := by rw [u8_47]; exact hc
        rw [List.count_cons_of_ne (by simpa using hc)] at h
        obtain ⟨m, h1, h2, h3, h4⟩ := ih (i + 1) h
        refine ⟨m + 1, ?_, by simp; omega, ?_, fun acc => ?_⟩
        · simp only [idxByte]
          rw [if_neg hc', show ((i : Int) + 1) = ((i + 1 : Nat) : Int) by omega, h1]
          congr 1; omega
        · rw [List.count_cons_of_ne (by simpa using hc)]
          simpa using h3
        · simp only [pieces, hc, if_false, h4 (acc ++ [c])]
          simp
  obtain ⟨m, h1, h2, h3, h4⟩ := key s 0 h
  exact ⟨m, by simpa using h1, h2, h3, h4⟩

theorem pieces_none : ∀ (s acc : List UInt8), s.count 47 = 0 → pieces s acc = [acc ++ s] := by
  intro s
  induction s with
  | nil => intro acc _; simp [pieces]
  | cons c r ih =>
    intro acc h
    have hc : c ≠ 47 := by rintro rfl; simp at h
    rw [List.count_cons_of_ne (by simpa using hc)] at h
    simp only [pieces, hc, if_false, ih _ h]
    simp

theorem set_take {α : Type} (a : List α) (i : Nat) (v : α) (h : i < a.length) : (a.set i v).take (i + 1) = a.take i ++ [v] := by
  rw [List.take_add_one, List.getElem?_set_self h, List.take_set_of_le (Nat.le_refl _)]
  rfl

theorem split_loop (n : Nat) (hn : n < 1000000) : ∀ (j i : Nat) (s : List UInt8) (a : List (List UInt8)), n - i = j → i ≤ n → s.count 47 = n - i → s.length < 1000000 → a.length = n + 1 →
    ∃ s' a', iter (strings_genSplit_b0 [47] 0 (n : Int)) (s, (i : Int), a) = some (s', (n : Int), a') ∧ a'.length = n + 1 ∧ a'.take n ++ [s'] = a.take i ++ pieces s [] := by
  intro j
  induction j with
  | zero =>
    intro i s a hj hi hc hs ha
    have e : i = n := by omega
    subst e
    refine ⟨s, a, ?_, ha, ?_⟩
    · rw [iter_inr (t := (s, (i : Int), a))]
      unfold strings_genSplit_b0
      simp
    · rw [pieces_none s [] (by omega)]
      simp
  | succ j ih =>
    intro i s a hj hi hc hs ha
    obtain ⟨m, h1, h2, h3, h4⟩ := idx_split s (by omega)
    obtain ⟨s', a', g1, g2, g3⟩ := ih (i + 1) (s.drop (m + 1)) (a.set i (s.take m)) (by omega) (by omega) (by omega) (by simp; omega) (by simpa using ha)
    refine ⟨s', a', ?_, g2, ?_⟩
    · rw [iter_inl (s' := (s.drop (m + 1), ((i + 1 : Nat) : Int), a.set i (s.take m))), g1]
      unfold strings_genSplit_b0
      have e1 : IntKind.wrap IntKind.i64 ((m : Int) + 0) = (m : Int) := by rw [w64 (by omega) (by omega)]; omega
      have e2 : IntKind.wrap IntKind.i64 ((m : Int) + ((([47] : List UInt8).length : Nat) : Int)) = ((m + 1 : Nat) : Int) := by rw [w64 (by simp; omega) (by simp; omega)]; simp
      have e3 : IntKind.wrap IntKind.i64 ((i : Int) + 1) = ((i + 1 : Nat) : Int) := by rw [w64 (by omega) (by omega)]; omega
      simp only [natlt, show i < n by omega, decide_true, cond_true, index_eq, h1, Option.bind_some, show ¬ ((m : Int) < 0) by omega, decide_false, cond_false, e1, e2, e3, Int.toNat_natCast, Nat.zero_add, List.take_length]
      rw [if_pos (by omega), if_pos (by omega), if_pos (by omega), if_pos (by omega)]
      rfl
    · rw [g3, set_take a i _ (by omega), h4 []]
      simp

theorem genSplit_eq (s : List UInt8) (hs : s.length < 1000000) : strings_genSplit s [47] 0 (-1) = some (pieces s []) := by
  unfold strings_genSplit
  have hcl : s.count 47 ≤ s.length := List.count_le_length
  have e1 : IntKind.wrap IntKind.i64 (((s.count 47 : Nat) : Int) + 1) = ((s.count 47 + 1 : Nat) : Int) := by rw [w64 (by omega) (by omega)]; omega
  have e2 : IntKind.wrap IntKind.i64 ((s.length : Int) + 1) = ((s.length + 1 : Nat) : Int) := by rw [w64 (by omega) (by omega)]; omega
  have e3 : (if ((s.length + 1 : Nat) : Int) < ((s.count 47 + 1 : Nat) : Int) then ((s.length + 1 : Nat) : Int) else ((s.count 47 + 1 : Nat) : Int)) = ((s.count 47 + 1 : Nat) : Int) := by rw [if_neg (by omega)]
  have e4 : IntKind.wrap IntKind.i64 (((s.count 47 + 1 : Nat) : Int) - 1) = ((s.count 47 : Nat) : Int) := by rw [w64 (by omega) (by omega)]; omega
  have e5 : IntKind.wrap IntKind.i64 (((s.count 47 : Nat) : Int) + 1) = ((s.count 47 + 1 : Nat) : Int) := e1
  obtain ⟨s', a', h1, h2, h3⟩ := split_loop (s.count 47) (by omega) (s.count 47) 0 s (List.replicate (s.count 47 + 1) []) (by omega) (by omega) (by omega) hs (by simp)
  have hne : ¬ (([47] : List UInt8) = []) := by simp
  simp only [show ¬ ((-1 : Int) = 0) by omega, decide_false, cond_false, hne, show ((-1 : Int) < 0) by omega, decide_true, cond_true, count_eq, Option.bind_some, e1, e2, e3, e4, Int.toNat_natCast]
  have h1' : iter (strings_genSplit_b0 [47] 0 ((s.count 47 : Nat) : Int)) (s, (0 : Int), List.replicate (s.count 47 + 1) []) = some (s', ((s.count 47 : Nat) : Int), a') := h1
  rw [if_pos (by omega), h1']
  simp only [Option.bind_some, Int.toNat_natCast, Nat.zero_add, e5, List.length_set]
  rw [if_pos (by omega), if_pos (by omega), if_pos (by omega), set_take a' _ _ (by omega), h3]
  simp

theorem keep_loop (l : List (List UInt8)) (hl : l.length < 1000001) : ∀ (r : List (List UInt8)) (k : Nat) (out : List (List UInt8)), l.drop k = r → out.length ≤ k →
    iter (path_keep_string__b0 l (l.length : Int)) ((k : Int), out) = some (out ++ r.filter full) := by
  intro r
  induction r with
  | nil =>
    intro k out h ho
    have := drop_nil h
    rw [iter_inr (t := out)]
    · simp
    · unfold path_keep_string__b0
      simp [show ¬ k < l.length by omega]
  | cons x r ih =>
    intro k out h ho
    obtain ⟨g1, g2, g3⟩ := drop_cons h []
    rw [iter_inl (s' := (((k + 1 : Nat) : Int), if full x = true then out ++ [x] else out)), ih (k + 1) _ g3 (by split <;> first | omega | (rw [List.length_append]; simp; omega))]
    · simp only [List.filter_cons]
      split <;> simp
    · unfold path_keep_string__b0 path_Parts_1
      simp only [natlt, g1, decide_true, cond_true, Int.natCast_nonneg, true_and, if_true, Int.toNat_natCast, g2, kplus g1 (by omega), Option.bind_some, List.drop_zero, List.length_cons, List.length_nil]
      by_cases hx : x = []
      · simp [hx, full]
      · simp only [full, hx, decide_false, Bool.not_false, cond_true, if_true]
        rw [if_pos (by omega)]

theorem pieces_len : ∀ (s acc : List UInt8), (pieces s acc).length ≤ s.length + 1 := by
  intro s
  induction s with
  | nil => intro acc; simp [pieces]
  | cons c r ih =>
    intro acc
    simp only [pieces]
    split
    · have := ih []; simp; omega
    · have := ih (acc ++ [c]); simp; omega

theorem parts_eq (s : List UInt8) (hs : s.length < 1000000) : path_Parts s = some (partsV s) := by
  unfold path_Parts strings_Split path_keep_string_
  have := pieces_len s []
  rw [genSplit_eq s hs]
  simp only [Option.bind_some, List.drop_zero]
  rw [show ((0 : Int)) = ((0 : Nat) : Int) from rfl, keep_loop (pieces s []) (by omega) _ 0 [] rfl (by simp)]
  simp [partsV]

def cstep (left : List (List UInt8)) (p : List UInt8) : List (List UInt8) := if p = [46] then left else if p = [46, 46] then left.dropLast else left ++ [p]

def leftV (l : List (List UInt8)) : List (List UInt8) := l.foldl cstep []

def joinedV (l : List (List UInt8)) : List UInt8 := if l = [] then [47] else l.flatMap fun x => 47 :: x

def plainC (c : UInt8) : Bool := decide (33 ≤ c.toNat) && decide (c.toNat ≤ 126)

def plainV (s : List UInt8) : Bool := s.all plainC && decide (s.take 1 = [47])

def cleanV (s : List UInt8) : List UInt8 × Int :=
  if plainV s = true then (if 200 < (joinedV (leftV (partsV s))).length then ([], 8) else (joinedV (leftV (partsV s)), 0)) else ([], 1)

def tot (l : List (List UInt8)) : Nat := (l.map fun x => x.length + 1).sum

theorem tot_append (a b : List (List UInt8)) : tot (a ++ b) = tot a + tot b := by simp [tot]

theorem tot_cons (x : List UInt8) (b : List (List UInt8)) : tot (x :: b) = x.length + 1 + tot b := by simp [tot]

theorem len_tot : ∀ l : List (List UInt8), l.length ≤ tot l := by
  intro l
  induction l with
  | nil => simp [tot]
  | cons x l ih => rw [tot_cons]; simp; omega

theorem tot_pieces : ∀ (s acc : List UInt8), tot (pieces s acc) = s.length + acc.length + 1 := by
  intro s
  induction s with
  | nil => intro acc; simp [pieces, tot]
  | cons c r ih =>
    intro acc
    simp only [pieces]
    split
    · rw [tot_cons, ih]; simp; omega
    · rw [ih]; simp; omega

theorem tot_filter (p : List UInt8 → Bool) : ∀ l : List (List UInt8), tot (l.filter p) ≤ tot l := by
  intro l
  induction l with
  | nil => simp [tot]
  | cons x l ih =>
    rw [List.filter_cons, tot_cons]
    split
    · rw [tot_cons]; omega
    · omega

theorem tot_dropLast (l : List (List UInt8)) : tot l.dropLast ≤ tot l := by
  by_cases h : l = []
  · subst h; simp
  · conv => rhs; rw [← List.dropLast_concat_getLast h]
    rw [tot_append]; omega

theorem tot_fold : ∀ (l left : List (List UInt8)), tot (l.foldl cstep left) ≤ tot left + tot l := by
  intro l
  induction l with
  | nil => intro left; simp [tot]
  | cons x l ih =>
    intro left
    rw [List.foldl_cons, tot_cons]
    have := ih (cstep left x)
    have h2 : tot (cstep left x) ≤ tot left + (x.length + 1) := by
      unfold cstep
      split
      · omega
      · split
        · have := tot_dropLast left; omega
        · rw [tot_append]; simp [tot]
    omega

theorem tot_parts (s : List UInt8) : tot (partsV s) ≤ s.length + 1 := by
  have := tot_filter full (pieces s [])
  rw [tot_pieces] at this
  exact this

theorem tot_left (s : List UInt8) : tot (leftV (partsV s)) ≤ s.length + 1 := by
  have := tot_fold (partsV s) []
  have := tot_parts s
  unfold leftV
  simp [tot] at *
  omega

theorem flat_len : ∀ l : List (List UInt8), (l.flatMap fun x => (47 : UInt8) :: x).length = tot l := by
  intro l
  induction l with
  | nil => simp [tot]
  | cons x l ih => rw [List.flatMap_cons, List.length_append, ih, tot_cons]; simp

theorem joinedV_len (l : List (List UInt8)) : (joinedV l).length ≤ tot l + 1 := by
  unfold joinedV
  split
  · simp
  · rw [flat_len]; omega

theorem c0 : ((0 : Nat) : Int) = 0 := rfl

theorem dropLast_take {α : Type} (l : List α) : l.take (l.length - 1) = l.dropLast := by rw [List.dropLast_eq_take]

theorem clean_loop (l : List (List UInt8)) (hl : l.length < 1000001) : ∀ (r : List (List UInt8)) (k : Nat) (left : List (List UInt8)), l.drop k = r → left.length ≤ k →
    iter (path_Clean_b0 ((l.length : Int) - 0) l) ((k : Int), left) = some (r.foldl cstep left) := by
  intro r
  induction r with
  | nil =>
    intro k left h ho
    have := drop_nil h
    rw [iter_inr (t := left)]
    · rfl
    · unfold path_Clean_b0
      simp [show ¬ k < l.length by omega]
  | cons x r ih =>
    intro k left h ho
    obtain ⟨g1, g2, g3⟩ := drop_cons h []
    have hlen : (cstep left x).length ≤ k + 1 := by
      unfold cstep
      split
      · omega
      · split
        · simp; omega
        · simp; omega
    rw [iter_inl (s' := (((k + 1 : Nat) : Int), cstep left x)), ih (k + 1) _ g3 hlen, List.foldl_cons]
    unfold path_Clean_b0
    simp only [c0, Int.sub_zero, Int.add_zero, natlt, g1, decide_true, cond_true, Int.natCast_nonneg, true_and, Int.toNat_natCast, Nat.zero_add, if_true, g2, kplus g1 (by omega)]
    unfold cstep
    by_cases h1 : x = [46]
    · simp [h1]
    · by_cases h2 : x = [46, 46]
      · have e : IntKind.wrap IntKind.i64 ((if (1 : Int) > (left.length : Int) then (1 : Int) else (left.length : Int)) - 1) = ((left.length - 1 : Nat) : Int) := by
          rw [w64 (by split <;> omega) (by split <;> omega)]
          split <;> omega
        simp only [h1, decide_false, cond_false, if_false, e, Int.toNat_natCast, dropLast_take]
        simp only [h2, decide_true, cond_true, if_true]
        rw [if_pos (by omega)]
      · simp only [h1, h2, decide_false, cond_false, if_false, List.drop_zero, List.length_cons, List.length_nil]
        rw [if_pos (by omega)]

theorem refClean_loop (l : List (List UInt8)) (hl : l.length < 1000001) : ∀ (r : List (List UInt8)) (k : Nat) (left : List (List UInt8)), l.drop k = r → left.length ≤ k →
    iter (cellarerref02_Clean_b1 l) ((k : Int), left) = some (r.foldl cstep left) := by
  intro r
  induction r with
  | nil =>
    intro k left h ho
    have := drop_nil h
    rw [iter_inr (t := left)]
    · rfl
    · unfold cellarerref02_Clean_b1
      simp [show ¬ k < l.length by omega]
  | cons x r ih =>
    intro k left h ho
    obtain ⟨g1, g2, g3⟩ := drop_cons h []
    have hlen : (cstep left x).length ≤ k + 1 := by
      unfold cstep
      split
      · omega
      · split
        · simp; omega
        · simp; omega
    rw [iter_inl (s' := (((k + 1 : Nat) : Int), cstep left x)), ih (k + 1) _ g3 hlen, List.foldl_cons]
    unfold cellarerref02_Clean_b1
    simp only [c0, Int.sub_zero, Int.add_zero, natlt, g1, decide_true, cond_true, Int.natCast_nonneg, true_and, Int.toNat_natCast, Nat.zero_add, if_true, g2, kplus g1 (by omega)]
    unfold cstep
    by_cases h1 : x = [46]
    · simp [h1]
    · by_cases h2 : x = [46, 46]
      · by_cases h3 : left = []
        · subst h3
          simp [h1, h2]
        · have hp : 0 < left.length := List.length_pos_iff.mpr h3
          have e : IntKind.wrap IntKind.i64 ((left.length : Int) - 1) = ((left.length - 1 : Nat) : Int) := by
            rw [w64 (by omega) (by omega)]; omega
          have hd : decide ((0 : Int) < (left.length : Int)) = true := by simp; omega
          simp only [h1, hd, if_false, e, Int.toNat_natCast, dropLast_take]
          simp only [h2, decide_true, cond_true, if_true]
          rw [if_pos (by omega)]
      · simp only [h1, h2, decide_false, Bool.not_false, cond_false, cond_true, if_false, List.drop_zero, List.length_cons, List.length_nil]
        rw [if_pos (by omega)]

theorem joined_loop (l : List (List UInt8)) (hl : tot l < 2000002) : ∀ (r : List (List UInt8)) (k : Nat) (t : List UInt8), l.drop k = r → t.length + tot r ≤ 2000002 →
    iter (cellarerref02_Joined_b0 l) (t, (k : Int)) = some (t ++ r.flatMap fun x => 47 :: x) := by
  intro r
  have hlen := len_tot l
  induction r with
  | nil =>
    intro k t h ho
    have := drop_nil h
    rw [iter_inr (t := t)]
    · simp
    · unfold cellarerref02_Joined_b0
      simp [show ¬ k < l.length by omega]
  | cons x r ih =>
    intro k t h ho
    obtain ⟨g1, g2, g3⟩ := drop_cons h []
    rw [tot_cons] at ho
    rw [iter_inl (s' := (t ++ [47] ++ x, ((k + 1 : Nat) : Int))), ih (k + 1) _ g3 (by simp; omega)]
    · simp
    · unfold cellarerref02_Joined_b0
      simp only [natlt, g1, decide_true, cond_true, Int.natCast_nonneg, true_and, if_true, Int.toNat_natCast, g2, kplus g1 (by omega)]
      rw [if_pos (by simp; omega), if_pos (by simp; omega)]

theorem refJoined_eq (l : List (List UInt8)) (hl : tot l < 2000002) : cellarerref02_Joined l = some (joinedV l) := by
  unfold cellarerref02_Joined joinedV
  by_cases h : l = []
  · subst h; rfl
  · have hp : 0 < l.length := List.length_pos_iff.mpr h
    simp only [show ¬ ((l.length : Int) = 0) by omega, decide_false, cond_false, h, if_false]
    rw [show ((0 : Int)) = ((0 : Nat) : Int) from rfl, joined_loop l hl l 0 [] rfl (by simp; omega)]
    simp

theorem join_flat : ∀ (r : List (List UInt8)), Lib.joinTail [47] r = r.flatMap fun x => 47 :: x := by
  intro r
  simp [Lib.joinTail, List.flatMap]

theorem sjoin_eq (l : List (List UInt8)) (hl : tot l < 2000002) : ∃ t, strings_Join l [47] = some t ∧ [47] ++ t = joinedV l ∧ t.length ≤ 2000002 := by
  have h1 := joinedV_len l
  have hlen := len_tot l
  have hj : [47] ++ Lib.join l [47] = joinedV l := by
    unfold joinedV
    cases l with
    | nil => simp [Lib.join_nil]
    | cons x r =>
      rw [Lib.join_cons, join_flat]
      simp
  have h2 : (Lib.join l [47]).length ≤ 2000002 := by
    have := congrArg List.length hj
    simp at this
    omega
  refine ⟨_, ?_, hj, h2⟩
  unfold strings_Join
  rw [if_pos (by omega)]

theorem il33 (n : Nat) : ((n : Int) < (33 : Int)) = ¬ (33 ≤ n) := propext (by omega)

theorem il126 (n : Nat) : ((126 : Int) < (n : Int)) = ¬ (n ≤ 126) := propext (by omega)

theorem allFrom_const {α : Type} (p : α → Bool) : ∀ (r : List α) (k : Nat), allFrom (fun _ => p) k r = r.all p := by
  intro r
  induction r with
  | nil => intro k; rfl
  | cons c r ih => intro k; simp [allFrom, ih]

theorem plain_eq (s : List UInt8) (hs : s.length < 1000000) : path_plain s = some (plainV s) := by
  unfold path_plain plainV
  have := all_loop (path_plain_b0 s (s.length : Int)) (fun _ => plainC) s (fun k hk => by
      unfold path_plain_b0
      simp [show ¬ k < s.length by omega]) (fun k c r h => by
      unfold path_plain_b0
      obtain ⟨g1, g2, _⟩ := drop_cons h 0
      simp only [natlt, g1, decide_true, cond_true, Int.natCast_nonneg, true_and, if_true, Int.toNat_natCast, g2, kplus g1 (by omega), il33, il126, plainC]
      by_cases h1 : 33 ≤ c.toNat <;> by_cases h2 : c.toNat ≤ 126 <;> simp [h1, h2]) s 0 rfl
  rw [show ((0 : Int)) = ((0 : Nat) : Int) from rfl, this, allFrom_const]
  cases s.all plainC
  · rfl
  · simp [hasPrefix_eq]

theorem clean_eq (s : List UInt8) (hs : s.length < 1000000) : path_Clean s = some (cleanV s) := by
  unfold path_Clean cleanV
  rw [plain_eq s hs]
  by_cases hp : plainV s = true
  · have ht := tot_parts s
    have ht2 := tot_left s
    have hl := len_tot (partsV s)
    obtain ⟨t, h1, h2, h3⟩ := sjoin_eq (leftV (partsV s)) (by omega)
    simp only [hp, Option.bind_some, Bool.not_true, cond_false, parts_eq s hs, if_true]
    rw [show (((partsV s).length : Int) - ((0 : Nat) : Int)) = (((partsV s).length : Int) - 0) from rfl, show ((0 : Int), ([] : List (List UInt8))) = (((0 : Nat) : Int), ([] : List (List UInt8))) from rfl, clean_loop (partsV s) (by omega) _ 0 [] rfl (by simp)]
    simp only [Option.bind_some, List.drop_zero]
    rw [show List.foldl cstep [] (partsV s) = leftV (partsV s) from rfl, h1]
    simp only [Option.bind_some, h2]
    rw [if_pos (by simp; omega)]
    have e : ((200 : Int) < ((joinedV (leftV (partsV s))).length : Int)) = (200 < (joinedV (leftV (partsV s))).length) := propext (by omega)
    simp only [e]
    by_cases c : 200 < (joinedV (leftV (partsV s))).length <;> simp [c]
  · have hf : plainV s = false := by simpa using hp
    simp [hf]

theorem refClean_eq (s : List UInt8) (hs : s.length < 1000000) : cellarerref02_Clean s = some (cleanV s) := by
  unfold cellarerref02_Clean cleanV plainV
  have hall := all_loop (cellarerref02_Clean_b0 s) (fun _ => plainC) s (fun k hk => by
      unfold cellarerref02_Clean_b0
      simp [show ¬ k < s.length by omega]) (fun k c r h => by
      unfold cellarerref02_Clean_b0
      obtain ⟨g1, g2, _⟩ := drop_cons h 0
      simp only [natlt, g1, decide_true, cond_true, Int.natCast_nonneg, true_and, if_true, Int.toNat_natCast, g2, kplus g1 (by omega), il33, il126, plainC]
      by_cases h1 : 33 ≤ c.toNat <;> by_cases h2 : c.toNat ≤ 126 <;> simp [h1, h2]) s 0 rfl
  rw [allFrom_const] at hall
  cases s with
  | nil => rfl
  | cons c r =>
    simp only [u8_47, show ¬ (((c :: r).length : Int) = 0) by simp; omega, decide_false, cond_false]
    rw [if_pos (by simp), show List.getD (c :: r) (Int.toNat (0 : Int)) 0 = c from rfl]
    by_cases hc : c = 47
    · subst hc
      have ht := tot_parts (47 :: r)
      have ht2 := tot_left (47 :: r)
      have hl := len_tot (partsV (47 :: r))
      have hlc := refClean_loop (partsV (47 :: r)) (by omega) _ 0 [] rfl (by simp)
      simp only [decide_true, Bool.not_true, cond_false, Option.bind_some, Sum.elim_inr]
      rw [show ((0 : Int)) = ((0 : Nat) : Int) from rfl, hall]
      cases ha : (47 :: r).all plainC
      · simp [ha]
      · simp only [if_true, Option.bind_some, Sum.elim_inr, refParts_eq _ hs]
        rw [hlc]
        simp only [Option.bind_some, List.drop_zero]
        rw [show List.foldl cstep [] (partsV (47 :: r)) = leftV (partsV (47 :: r)) from rfl, refJoined_eq _ (by omega)]
        have e : ((200 : Int) < ((joinedV (leftV (partsV (47 :: r)))).length : Int)) = (200 < (joinedV (leftV (partsV (47 :: r)))).length) := propext (by omega)
        simp only [Option.bind_some, e]
        by_cases c : 200 < (joinedV (leftV (partsV (47 :: r)))).length <;> simp [c]
    · simp [hc]

def rightV (s : List UInt8) : Bool := decide ((cleanV s).2 = 0) && decide ((cleanV s).1 = s)

theorem right_eq (s : List UInt8) (hs : s.length < 1000000) : path_Right s = some (rightV s) := by
  unfold path_Right rightV
  rw [clean_eq s hs]
  by_cases h : (cleanV s).2 = 0 <;> simp [h]

theorem refRight_eq (s : List UInt8) (hs : s.length < 1000000) : cellarerref02_Right s = some (rightV s) := by
  unfold cellarerref02_Right rightV
  rw [refClean_eq s hs]
  by_cases h : (cleanV s).2 = 0 <;> simp [h]

end Go.Cellar
