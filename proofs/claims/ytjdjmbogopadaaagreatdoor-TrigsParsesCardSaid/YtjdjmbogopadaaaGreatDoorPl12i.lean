/- Words between blanks, by plain lists. No condition. -/
import Derived.Test.YtjdjmbogopadaaaGreatDoorPl12h
import Derived.Test.YtjdjmbogopadaaaGreatDoorFun12p

set_option linter.unusedSimpArgs false
set_option linter.unusedVariables false
set_option maxRecDepth 4000
namespace Go.Cellar
open Go

def pieces_S : List UInt8 → List UInt8 → List (List UInt8)
  | [], acc => [acc]
  | c :: r, acc => if c = 32 then acc :: pieces_S r [] else pieces_S r (acc ++ [c])

theorem u8_S (c : UInt8) : ((c.toNat : Int) = 32) = (c = 32) := propext ⟨fun h => UInt8.toNat_inj.mp (by have : (32 : UInt8).toNat = 32 := rfl; omega), fun h => by subst h; rfl⟩

theorem index_eq_S (s : List UInt8) (hs : s.length < 4294967281) : strings_Index s [32] = some (idxByte 32 s 0) := by
  unfold strings_Index
  rw [if_pos hs]
  have h := lidx 32 s 0
  have h0 : idxByte ((32 : UInt8).toNat : Int) s ((0 : Nat) : Int) = idxByte 32 s 0 := rfl
  rw [← h0, h]
  congr 1
  by_cases hm : Lib.index s [32] = -1
  · rw [if_pos hm]; exact hm
  · rw [if_neg hm]; simp

theorem count_eq_S (s : List UInt8) : strings_Count s [32] = some ((s.count 32 : Nat) : Int) := by
  unfold strings_Count
  have e : Nat.toUInt8 (Int.toNat (((List.getD [(32 : UInt8)] (Int.toNat (0 : Int)) 0).toNat : Nat) : Int)) = 32 := by decide
  simp only [e, List.length_cons, List.length_nil]
  simp

theorem idx_split_S (s : List UInt8) (h : 0 < s.count 32) : ∃ (m : Nat), idxByte 32 s 0 = (m : Int) ∧ m < s.length ∧ (s.drop (m + 1)).count 32 + 1 = s.count 32 ∧ ∀ acc, pieces_S s acc = (acc ++ s.take m) :: pieces_S (s.drop (m + 1)) [] := by
  have key : ∀ (s : List UInt8) (i : Nat), 0 < s.count 32 → ∃ (m : Nat), idxByte 32 s (i : Int) = ((i + m : Nat) : Int) ∧ m < s.length ∧ (s.drop (m + 1)).count 32 + 1 = s.count 32 ∧ ∀ acc, pieces_S s acc = (acc ++ s.take m) :: pieces_S (s.drop (m + 1)) [] := by
    intro s
    induction s with
    | nil => intro i h; simp at h
    | cons c r ih =>
      intro i h
      by_cases hc : c = 32
      · subst hc
        refine ⟨0, ?_, by simp, by simp, fun acc => by simp [pieces_S]⟩
        simp only [idxByte]
        rw [if_pos (by decide)]
        simp
      · have hc' : ¬ ((c.toNat : Int) = 32) := by rw [u8_S]; exact hc
        rw [List.count_cons_of_ne (by simpa using hc)] at h
        obtain ⟨m, h1, h2, h3, h4⟩ := ih (i + 1) h
        refine ⟨m + 1, ?_, by simp; omega, ?_, fun acc => ?_⟩
        · simp only [idxByte]
          rw [if_neg hc', show ((i : Int) + 1) = ((i + 1 : Nat) : Int) by omega, h1]
          congr 1; omega
        · rw [List.count_cons_of_ne (by simpa using hc)]
          simpa using h3
        · simp only [pieces_S, hc, if_false, h4 (acc ++ [c])]
          simp
  obtain ⟨m, h1, h2, h3, h4⟩ := key s 0 h
  exact ⟨m, by simpa using h1, h2, h3, h4⟩

theorem pieces_none_S : ∀ (s acc : List UInt8), s.count 32 = 0 → pieces_S s acc = [acc ++ s] := by
  intro s
  induction s with
  | nil => intro acc _; simp [pieces_S]
  | cons c r ih =>
    intro acc h
    have hc : c ≠ 32 := by rintro rfl; simp at h
    rw [List.count_cons_of_ne (by simpa using hc)] at h
    simp only [pieces_S, hc, if_false, ih _ h]
    simp

theorem split_loop_S (n : Nat) (hn : n < 1000000) : ∀ (j i : Nat) (s : List UInt8) (a : List (List UInt8)), n - i = j → i ≤ n → s.count 32 = n - i → s.length < 1000000 → a.length = n + 1 →
    ∃ s' a', iter (strings_genSplit_b0 [32] 0 (n : Int)) (s, (i : Int), a) = some (s', (n : Int), a') ∧ a'.length = n + 1 ∧ a'.take n ++ [s'] = a.take i ++ pieces_S s [] := by
  intro j
  induction j with
  | zero =>
    intro i s a hj hi hc hs ha
    have e : i = n := by omega
    subst e
    refine ⟨s, a, ?_, ha, ?_⟩
    · rw [iter_inr (t := (s, (i : Int), a))]
      unfold strings_genSplit_b0
      simp
    · rw [pieces_none_S s [] (by omega)]
      simp
  | succ j ih =>
    intro i s a hj hi hc hs ha
    obtain ⟨m, h1, h2, h3, h4⟩ := idx_split_S s (by omega)
    obtain ⟨s', a', g1, g2, g3⟩ := ih (i + 1) (s.drop (m + 1)) (a.set i (s.take m)) (by omega) (by omega) (by omega) (by simp; omega) (by simpa using ha)
    refine ⟨s', a', ?_, g2, ?_⟩
    · rw [iter_inl (s' := (s.drop (m + 1), ((i + 1 : Nat) : Int), a.set i (s.take m))), g1]
      unfold strings_genSplit_b0
      have e1 : IntKind.wrap IntKind.i64 ((m : Int) + 0) = (m : Int) := by rw [w64 (by omega) (by omega)]; omega
      have e2 : IntKind.wrap IntKind.i64 ((m : Int) + ((([32] : List UInt8).length : Nat) : Int)) = ((m + 1 : Nat) : Int) := by rw [w64 (by simp; omega) (by simp; omega)]; simp
      have e3 : IntKind.wrap IntKind.i64 ((i : Int) + 1) = ((i + 1 : Nat) : Int) := by rw [w64 (by omega) (by omega)]; omega
      simp only [natlt, show i < n by omega, decide_true, cond_true, index_eq_S s (by omega), h1, Option.bind_some, show ¬ ((m : Int) < 0) by omega, decide_false, cond_false, e1, e2, e3, Int.toNat_natCast, Nat.zero_add, List.take_length]
      rw [if_pos (by omega), if_pos (by omega), if_pos (by omega), if_pos (by omega)]
      rfl
    · rw [g3, set_take a i _ (by omega), h4 []]
      simp

theorem genSplit_eq_S (s : List UInt8) (hs : s.length < 1000000) : strings_genSplit s [32] 0 (-1) = some (pieces_S s []) := by
  unfold strings_genSplit
  have hcl : s.count 32 ≤ s.length := List.count_le_length
  have e1 : IntKind.wrap IntKind.i64 (((s.count 32 : Nat) : Int) + 1) = ((s.count 32 + 1 : Nat) : Int) := by rw [w64 (by omega) (by omega)]; omega
  have e2 : IntKind.wrap IntKind.i64 ((s.length : Int) + 1) = ((s.length + 1 : Nat) : Int) := by rw [w64 (by omega) (by omega)]; omega
  have e3 : (if ((s.length + 1 : Nat) : Int) < ((s.count 32 + 1 : Nat) : Int) then ((s.length + 1 : Nat) : Int) else ((s.count 32 + 1 : Nat) : Int)) = ((s.count 32 + 1 : Nat) : Int) := by rw [if_neg (by omega)]
  have e4 : IntKind.wrap IntKind.i64 (((s.count 32 + 1 : Nat) : Int) - 1) = ((s.count 32 : Nat) : Int) := by rw [w64 (by omega) (by omega)]; omega
  have e5 : IntKind.wrap IntKind.i64 (((s.count 32 : Nat) : Int) + 1) = ((s.count 32 + 1 : Nat) : Int) := e1
  obtain ⟨s', a', h1, h2, h3⟩ := split_loop_S (s.count 32) (by omega) (s.count 32) 0 s (List.replicate (s.count 32 + 1) []) (by omega) (by omega) (by omega) hs (by simp)
  have hne : ¬ (([32] : List UInt8) = []) := by simp
  simp only [show ¬ ((-1 : Int) = 0) by omega, decide_false, cond_false, hne, show ((-1 : Int) < 0) by omega, decide_true, cond_true, count_eq_S, Option.bind_some, e1, e2, e3, e4, Int.toNat_natCast]
  have h1' : iter (strings_genSplit_b0 [32] 0 ((s.count 32 : Nat) : Int)) (s, (0 : Int), List.replicate (s.count 32 + 1) []) = some (s', ((s.count 32 : Nat) : Int), a') := h1
  rw [if_pos (by omega), h1']
  simp only [Option.bind_some, Int.toNat_natCast, Nat.zero_add, e5, List.length_set]
  rw [if_pos (by omega), if_pos (by omega), if_pos (by omega), set_take a' _ _ (by omega), h3]
  simp

theorem pieces_S_len : ∀ (s acc : List UInt8), (pieces_S s acc).length ≤ s.length + 1 := by
  intro s
  induction s with
  | nil => intro acc; simp [pieces_S]
  | cons c r ih =>
    intro acc
    simp only [pieces_S]
    split
    · have := ih []; simp; omega
    · have := ih (acc ++ [c]); simp; omega

theorem pieces_snoc_S : ∀ (t acc : List UInt8), pieces_S (t ++ [32]) acc = pieces_S t acc ++ [[]] := by
  intro t
  induction t with
  | nil => intro acc; simp [pieces_S]
  | cons c r ih =>
    intro acc
    simp only [List.cons_append, pieces_S]
    split
    · rw [ih]; simp
    · rw [ih]

theorem pieces_ne_S : ∀ (t acc : List UInt8), pieces_S t acc ≠ [] := by
  intro t
  induction t with
  | nil => intro acc; simp [pieces_S]
  | cons c r ih =>
    intro acc
    simp only [pieces_S]
    split
    · simp
    · exact ih _

def joinS (l : List (List UInt8)) : List UInt8 := l.flatMap fun x => x ++ [32]

theorem pieces_join_S : ∀ (t acc : List UInt8), joinS (pieces_S t acc) = acc ++ t ++ [32] := by
  intro t
  induction t with
  | nil => intro acc; simp [pieces_S, joinS]
  | cons c r ih =>
    intro acc
    simp only [pieces_S]
    split
    · rename_i hc
      subst hc
      have := ih []
      simp only [joinS, List.flatMap_cons] at this ⊢
      rw [this]
      simp
    · rw [ih]; simp

theorem pieces_small_S : ∀ (t acc : List UInt8) (n : Nat), acc.length + t.length ≤ n → ∀ x ∈ pieces_S t acc, x.length ≤ n := by
  intro t
  induction t with
  | nil => intro acc n h x hx; simp [pieces_S] at hx; subst hx; simpa using h
  | cons c r ih =>
    intro acc n h x hx
    simp only [List.length_cons] at h
    simp only [pieces_S] at hx
    split at hx
    · rcases List.mem_cons.mp hx with rfl | hx
      · omega
      · exact ih [] n (by simp; omega) x hx
    · exact ih _ n (by simp; omega) x hx

theorem pieces_one_S : ∀ (x q acc : List UInt8), (∀ c ∈ x, c ≠ 32) → pieces_S (x ++ 32 :: q) acc = (acc ++ x) :: pieces_S q [] := by
  intro x
  induction x with
  | nil => intro q acc _; simp [pieces_S]
  | cons c r ih =>
    intro q acc h
    have hc := h c (by simp)
    simp only [List.cons_append, pieces_S, hc, if_false]
    rw [ih q _ (fun y hy => h y (by simp [hy]))]
    simp

theorem pieces_of_S : ∀ (L : List (List UInt8)), (∀ x ∈ L, ∀ c ∈ x, c ≠ 32) → pieces_S (joinS L) [] = L ++ [[]] := by
  intro L
  induction L with
  | nil => intro _; rfl
  | cons x r ih =>
    intro h
    have e : joinS (x :: r) = x ++ 32 :: joinS r := by simp [joinS]
    rw [e, pieces_one_S x _ [] (h x (by simp)), ih (fun y hy => h y (by simp [hy]))]
    simp

theorem refSplit_loop_S (s : List UInt8) (hs : s.length < 1000000) : ∀ (r : List UInt8) (k : Nat) (acc : List UInt8) (out : List (List UInt8)), s.drop k = r → k + r.length = s.length → acc.length ≤ k → out.length ≤ k →
    ∃ acc' out', iter (cellarerref06_Split_b0 s 32) (acc, (k : Int), out) = some (acc', out') ∧ out' ++ [acc'] = out ++ pieces_S r acc ∧ acc'.length ≤ s.length ∧ out'.length ≤ s.length := by
  intro r
  induction r with
  | nil =>
    intro k acc out h hk ha ho
    simp only [List.length_nil] at hk
    refine ⟨acc, out, ?_, ?_, by omega, by omega⟩
    · rw [iter_inr (t := (acc, out))]
      unfold cellarerref06_Split_b0
      simp [show ¬ k < s.length by omega]
    · simp only [pieces_S]
  | cons c r ih =>
    intro k acc out h hk ha ho
    simp only [List.length_cons] at hk
    obtain ⟨g1, g2, g3⟩ := drop_cons h 0
    have hb : cellarerref06_Split_b0 s 32 (acc, (k : Int), out) = some (.inl (if c = 32 then ([], ((k + 1 : Nat) : Int), out ++ [acc]) else (acc ++ [c], ((k + 1 : Nat) : Int), out))) := by
      unfold cellarerref06_Split_b0
      simp only [natlt, g1, decide_true, cond_true, Int.natCast_nonneg, true_and, if_true, Int.toNat_natCast, g2, kplus g1 (by omega), u8_S, slice1 h]
      by_cases hc : c = 32
      · simp only [hc, decide_true, cond_true, if_true, List.drop_zero, List.length_cons, List.length_nil]
        rw [if_pos (by omega)]
      · simp only [hc, decide_false, cond_false, if_false, List.length_cons, List.length_nil]
        rw [if_pos (by omega), if_pos (by omega)]
    rw [iter_inl hb]
    by_cases hc : c = 32
    · rw [if_pos hc]
      obtain ⟨acc', out', h1, h2, h3, h4⟩ := ih (k + 1) [] (out ++ [acc]) g3 (by omega) (by simp) (by simp; omega)
      refine ⟨acc', out', h1, ?_, h3, h4⟩
      rw [h2]
      simp only [pieces_S, hc, if_true]
      simp
    · rw [if_neg hc]
      obtain ⟨acc', out', h1, h2, h3, h4⟩ := ih (k + 1) (acc ++ [c]) out g3 (by omega) (by simp; omega) (by omega)
      refine ⟨acc', out', h1, ?_, h3, h4⟩
      rw [h2]
      simp only [pieces_S, hc, if_false]

theorem refSplit_eq_S (s : List UInt8) (hs : s.length < 1000000) : cellarerref06_Split s 32 = some (pieces_S s []) := by
  unfold cellarerref06_Split
  obtain ⟨acc, out, h1, h2, h3, h4⟩ := refSplit_loop_S s hs s 0 [] [] rfl (by simp) (by simp) (by simp)
  have h1' : iter (cellarerref06_Split_b0 s 32) (([] : List UInt8), (0 : Int), ([] : List (List UInt8))) = some (acc, out) := h1
  rw [h1']
  simp only [List.nil_append] at h2
  simp only [Option.bind_some, List.drop_zero, List.length_cons, List.length_nil]
  rw [if_pos (by omega), h2]

end Go.Cellar

/- What was fired: which may be. No condition. -/
set_option linter.unusedSimpArgs false
set_option linter.unusedVariables false
set_option maxRecDepth 4000
namespace Go.Cellar
open Go

abbrev Fd := List UInt8 × List (List UInt8)

def ordS (l : List (List UInt8)) (k : Nat) (x : List UInt8) : Bool := decide (k = 0) || Go.Op.bytesLess (l.getD (k - 1) []) x
def chkS (l : List (List UInt8)) (k : Nat) (x : List UInt8) : Bool := nameV x && ordS l k x
def riseV (l : List (List UInt8)) : Bool := allFrom (chkS l) 0 l
def ordF (l : List Fd) (k : Nat) (x : Fd) : Bool := decide (k = 0) || Go.Op.bytesLess (l.getD (k - 1) ([], [])).1 x.1
def chkF (l : List Fd) (k : Nat) (x : Fd) : Bool := trigV x.1 && (riseV x.2 && ordF l k x)
def longX (x : Fd) : Bool := decide (64 < x.2.length)
def checkF (l : List Fd) : Int := if 64 < l.length ∨ l.any longX = true then 22 else if allFrom (chkF l) 0 l = true then 0 else 1

def SmS (l : List (List UInt8)) : Prop := l.length ≤ 10000 ∧ ∀ p ∈ l, p.length ≤ 10000
def SmF (l : List Fd) : Prop := l.length ≤ 10000 ∧ ∀ x ∈ l, x.1.length ≤ 10000 ∧ SmS x.2

theorem allFrom_andF {α : Type} (p q : Nat → α → Bool) : ∀ (r : List α) (k : Nat), allFrom (fun k x => p k x && q k x) k r = (allFrom p k r && allFrom q k r)
  | [], _ => rfl
  | x :: r, k => by
    simp only [allFrom, allFrom_andF p q r (k + 1)]
    cases p k x <;> cases q k x <;> simp

theorem rise_loop (l : List (List UInt8)) (hl : SmS l) : iter (trigs_rising_b0 l l (l.length : Int)) (0 : Int) = some (if allFrom (chkS l) 0 l = true then .inr () else .inl ()) := by
  refine all_loop (trigs_rising_b0 l l (l.length : Int)) (chkS l) l (fun k hk => ?_) (fun k x r h => ?_) l 0 rfl
  · unfold trigs_rising_b0
    simp [show ¬ k < l.length by omega]
  · obtain ⟨g1, g2, g3⟩ := drop_cons h []
    have hl1 := hl.1
    unfold trigs_rising_b0 chkS
    simp only [natlt, g1, decide_true, cond_true, Int.natCast_nonneg, true_and, if_true, Int.toNat_natCast, g2, name_eq, Option.bind_some, kplus g1 (by omega)]
    cases hr : nameV x
    · simp
    · simp only [Bool.not_true, cond_false, Bool.true_and]
      by_cases hk : k = 0
      · subst hk
        simp [ordS]
      · have e : IntKind.wrap IntKind.i64 ((k : Int) - 1) = ((k - 1 : Nat) : Int) := by rw [w64 (by omega) (by omega)]; omega
        simp only [show ((0 : Int) < (k : Int)) by omega, decide_true, cond_true, e, Int.natCast_nonneg, true_and, natlt, show k - 1 < l.length by omega, if_true, Int.toNat_natCast, ordS, hk, decide_false, Bool.false_or]
        cases Go.Op.bytesLess (l.getD (k - 1) []) x <;> simp

theorem rise_eq (l : List (List UInt8)) (hl : SmS l) : trigs_rising l = some (riseV l) := by
  unfold trigs_rising riseV
  rw [rise_loop l hl]
  cases allFrom (chkS l) 0 l <;> rfl

theorem any_long_loop (l : List Fd) (hl : l.length ≤ 10000) : ∀ (r : List Fd) (k : Nat), l.drop k = r →
    iter (api_Fired__v2_b0 l (l.length : Int)) (k : Int) = some (.inr ()) ∧ r.any longX = false ∨ ∃ m : Nat, iter (api_Fired__v2_b0 l (l.length : Int)) (k : Int) = some (.inl (m : Int)) ∧ r.any longX = true := by
  intro r
  induction r with
  | nil =>
    intro k h
    have := drop_nil h
    left
    refine ⟨iter_inr ?_, rfl⟩
    unfold api_Fired__v2_b0
    simp [show ¬ k < l.length by omega]
  | cons x r ih =>
    intro k h
    obtain ⟨g1, g2, g3⟩ := drop_cons h ([], [])
    by_cases hx : 64 < x.2.length
    · right
      refine ⟨k, iter_inr ?_, by simp [longX, hx]⟩
      unfold api_Fired__v2_b0 trigs_CheckFired_1
      simp only [natlt, g1, decide_true, cond_true, Int.natCast_nonneg, true_and, if_true, Int.toNat_natCast, g2, Option.bind_some]
      rw [decide_eq_true (show (64 : Int) < (x.2.length : Int) by omega)]
      rfl
    · have hb : api_Fired__v2_b0 l (l.length : Int) (k : Int) = some (.inl ((k + 1 : Nat) : Int)) := by
        unfold api_Fired__v2_b0 trigs_CheckFired_1
        simp only [natlt, g1, decide_true, cond_true, Int.natCast_nonneg, true_and, if_true, Int.toNat_natCast, g2, Option.bind_some]
        rw [decide_eq_false (show ¬ (64 : Int) < (x.2.length : Int) by omega), kplus g1 (by omega)]
        rfl
      rw [iter_inl hb]
      have e : (x :: r).any longX = r.any longX := by simp [longX, hx]
      rw [e]
      exact ih (k + 1) g3

theorem any_long_eq (l : List Fd) (hl : l.length ≤ 10000) : api_Fired__43 l = some (l.any longX) := by
  unfold api_Fired__43 api_Fired__v2
  rcases any_long_loop l hl l 0 rfl with ⟨h1, h2⟩ | ⟨m, h1, h2⟩
  · have h1' : iter (api_Fired__v2_b0 l (l.length : Int)) (0 : Int) = some (.inr ()) := h1
    rw [h1', h2]; rfl
  · have h1' : iter (api_Fired__v2_b0 l (l.length : Int)) (0 : Int) = some (.inl (m : Int)) := h1
    rw [h1', h2]
    simp

theorem checkF_loop (l : List Fd) (hl : SmF l) : iter (trigs_CheckFired_b0 l l (l.length : Int)) (0 : Int) = some (if allFrom (chkF l) 0 l = true then .inr () else .inl ()) := by
  refine all_loop (trigs_CheckFired_b0 l l (l.length : Int)) (chkF l) l (fun k hk => ?_) (fun k x r h => ?_) l 0 rfl
  · unfold trigs_CheckFired_b0
    simp [show ¬ k < l.length by omega]
  · obtain ⟨g1, g2, g3⟩ := drop_cons h ([], [])
    have hx : x ∈ l := List.mem_of_mem_drop (by rw [h]; simp)
    have hsh := hl.2 x hx
    have hl1 := hl.1
    unfold trigs_CheckFired_b0 chkF
    simp only [natlt, g1, decide_true, cond_true, Int.natCast_nonneg, true_and, if_true, Int.toNat_natCast, g2, trig_eq x.1 (by omega), rise_eq x.2 hsh.2, Option.bind_some, kplus g1 (by omega)]
    cases hr : trigV x.1
    · simp
    · cases hn : riseV x.2
      · simp
      · simp only [Bool.not_true, cond_false, Bool.true_and]
        by_cases hk : k = 0
        · subst hk
          simp [ordF]
        · have e : IntKind.wrap IntKind.i64 ((k : Int) - 1) = ((k - 1 : Nat) : Int) := by rw [w64 (by omega) (by omega)]; omega
          simp only [show ((0 : Int) < (k : Int)) by omega, decide_true, cond_true, e, Int.natCast_nonneg, true_and, natlt, show k - 1 < l.length by omega, if_true, Int.toNat_natCast, ordF, hk, decide_false, Bool.false_or]
          cases Go.Op.bytesLess (l.getD (k - 1) ([], [])).1 x.1 <;> simp

theorem checkF_eq (l : List Fd) (hl : SmF l) : trigs_CheckFired l = some (checkF l) := by
  unfold trigs_CheckFired checkF
  have hl1 := hl.1
  by_cases h : 64 < l.length
  · rw [decide_eq_true (show (64 : Int) < (l.length : Int) by omega), if_pos (.inl h)]
    rfl
  · rw [decide_eq_false (show ¬ (64 : Int) < (l.length : Int) by omega), any_long_eq l hl1]
    cases ha : l.any longX
    · rw [if_neg (by simp [h])]
      simp only [cond_false, Option.bind_some, Sum.elim_inr]
      rw [checkF_loop l hl]
      cases allFrom (chkF l) 0 l <;> rfl
    · rw [if_pos (.inr rfl)]
      rfl

/-! ### the reference -/

theorem names_loop (l : List (List UInt8)) (hl : SmS l) : iter (cellarerref08_Names_b0 l) (0 : Int) = some (if allFrom (fun _ x => nameV x) 0 l = true then .inr () else .inl ()) := by
  refine all_loop (cellarerref08_Names_b0 l) (fun _ x => nameV x) l (fun k hk => ?_) (fun k x r h => ?_) l 0 rfl
  · unfold cellarerref08_Names_b0
    simp [show ¬ k < l.length by omega]
  · obtain ⟨g1, g2, g3⟩ := drop_cons h []
    have hx : x ∈ l := List.mem_of_mem_drop (by rw [h]; simp)
    have hsh := hl.2 x hx
    have hl1 := hl.1
    unfold cellarerref08_Names_b0
    simp only [natlt, g1, decide_true, cond_true, Int.natCast_nonneg, true_and, if_true, Int.toNat_natCast, g2, refName_eq x (by omega), Option.bind_some, kplus g1 (by omega)]
    cases hr : nameV x <;> simp

theorem risingS_loop (l : List (List UInt8)) (hl : SmS l) : ∀ (r : List (List UInt8)) (k : Nat), l.drop k = r → 1 ≤ k → iter (cellarerref08_Rising_b0 l) (k : Int) = some (if allFrom (ordS l) k r = true then .inr () else .inl ()) := by
  have hl1 := hl.1
  intro r
  induction r with
  | nil =>
    intro k h hk
    have := drop_nil h
    rw [iter_inr (t := .inr ())]
    · simp [allFrom]
    · unfold cellarerref08_Rising_b0
      simp [show ¬ k < l.length by omega]
  | cons x r ih =>
    intro k h hk
    obtain ⟨g1, g2, g3⟩ := drop_cons h []
    have e : IntKind.wrap IntKind.i64 ((k : Int) - 1) = ((k - 1 : Nat) : Int) := by rw [w64 (by omega) (by omega)]; omega
    have ho : ordS l k x = Go.Op.bytesLess (l.getD (k - 1) []) x := by unfold ordS; rw [decide_eq_false (by omega), Bool.false_or]
    have hb : cellarerref08_Rising_b0 l (k : Int) = some (if Go.Op.bytesLess (l.getD (k - 1) []) x = true then .inl ((k + 1 : Nat) : Int) else .inr (.inl ())) := by
      unfold cellarerref08_Rising_b0
      simp only [natlt, g1, decide_true, cond_true, e, Int.natCast_nonneg, true_and, show k - 1 < l.length by omega, if_true, Int.toNat_natCast, g2, kplus g1 (by omega)]
      cases Go.Op.bytesLess (l.getD (k - 1) []) x <;> simp
    simp only [allFrom, ho]
    cases hc : Go.Op.bytesLess (l.getD (k - 1) []) x with
    | true =>
      rw [hc] at hb
      rw [iter_inl hb, ih (k + 1) g3 (by omega)]
      simp
    | false =>
      rw [hc] at hb
      rw [iter_inr hb]
      simp

theorem ordS_from (l : List (List UInt8)) : allFrom (ordS l) 1 (l.drop 1) = allFrom (ordS l) 0 l := by
  cases l with
  | nil => rfl
  | cons x r => simp [allFrom, ordS]

theorem names_eq (l : List (List UInt8)) (hl : SmS l) (h64 : l.length ≤ 64) : cellarerref08_Names l = some (allFrom (fun _ x => nameV x) 0 l) := by
  unfold cellarerref08_Names
  rw [names_loop l hl]
  cases allFrom (fun _ x => nameV x) 0 l with
  | false => rfl
  | true =>
    simp only [if_true, Option.bind_some, Sum.elim_inr]
    rw [decide_eq_true (by omega)]

theorem risingS_eq (l : List (List UInt8)) (hl : SmS l) (h64 : l.length ≤ 64) : cellarerref08_Rising l = some (allFrom (ordS l) 0 l) := by
  unfold cellarerref08_Rising
  have h1 : iter (cellarerref08_Rising_b0 l) (1 : Int) = _ := risingS_loop l hl (l.drop 1) 1 rfl (Nat.le_refl _)
  rw [h1, ordS_from]
  cases allFrom (ordS l) 0 l with
  | false => rfl
  | true =>
    simp only [if_true, Option.bind_some, Sum.elim_inr]
    rw [decide_eq_true (by omega)]

theorem refLong_loop (l : List Fd) (hl : l.length ≤ 10000) : iter (cellarerref12_CheckFired_b0 l) (0 : Int) = some (if allFrom (fun _ x => !longX x) 0 l = true then .inr () else .inl ()) := by
  refine all_loop (cellarerref12_CheckFired_b0 l) (fun _ x => !longX x) l (fun k hk => ?_) (fun k x r h => ?_) l 0 rfl
  · unfold cellarerref12_CheckFired_b0
    simp [show ¬ k < l.length by omega]
  · obtain ⟨g1, g2, g3⟩ := drop_cons h ([], [])
    unfold cellarerref12_CheckFired_b0 longX
    simp only [natlt, g1, decide_true, cond_true, Int.natCast_nonneg, true_and, if_true, Int.toNat_natCast, g2, kplus g1 (by omega)]
    by_cases hq : 64 < x.2.length
    · rw [decide_eq_true (show (64 : Int) < (x.2.length : Int) by omega), decide_eq_true hq]; rfl
    · rw [decide_eq_false (show ¬ (64 : Int) < (x.2.length : Int) by omega), decide_eq_false hq]; rfl

theorem refCheckF_loop (l : List Fd) (hl : SmF l) (hs : ∀ x ∈ l, x.2.length ≤ 64) : iter (cellarerref12_CheckFired_b1 l) (0 : Int) = some (if allFrom (chkF l) 0 l = true then .inr () else .inl ()) := by
  refine all_loop (cellarerref12_CheckFired_b1 l) (chkF l) l (fun k hk => ?_) (fun k x r h => ?_) l 0 rfl
  · unfold cellarerref12_CheckFired_b1
    simp [show ¬ k < l.length by omega]
  · obtain ⟨g1, g2, g3⟩ := drop_cons h ([], [])
    have hx : x ∈ l := List.mem_of_mem_drop (by rw [h]; simp)
    have hsh := hl.2 x hx
    have h64 := hs x hx
    have hl1 := hl.1
    have hR : riseV x.2 = (allFrom (fun _ x => nameV x) 0 x.2 && allFrom (ordS x.2) 0 x.2) := allFrom_andF (fun _ x => nameV x) (ordS x.2) x.2 0
    unfold cellarerref12_CheckFired_b1 chkF
    rw [hR]
    simp only [natlt, g1, decide_true, cond_true, Int.natCast_nonneg, true_and, if_true, Int.toNat_natCast, g2, refTrig_eq x.1 (by omega), names_eq x.2 hsh.2 h64, risingS_eq x.2 hsh.2 h64, Option.bind_some, kplus g1 (by omega)]
    cases hr : trigV x.1
    · simp
    · cases hn : allFrom (fun _ x => nameV x) 0 x.2
      · simp
      · cases ho : allFrom (ordS x.2) 0 x.2
        · simp
        · simp only [Bool.not_true, cond_false, Bool.true_and]
          by_cases hk : k = 0
          · subst hk
            simp [ordF]
          · have e : IntKind.wrap IntKind.i64 ((k : Int) - 1) = ((k - 1 : Nat) : Int) := by rw [w64 (by omega) (by omega)]; omega
            simp only [show ((0 : Int) < (k : Int)) by omega, decide_true, cond_true, e, Int.natCast_nonneg, true_and, natlt, show k - 1 < l.length by omega, if_true, Int.toNat_natCast, ordF, hk, decide_false, Bool.false_or]
            cases Go.Op.bytesLess (l.getD (k - 1) ([], [])).1 x.1 <;> simp

theorem long_all (l : List Fd) : allFrom (fun _ x => !longX x) 0 l = !l.any longX := by
  rw [allFrom_const]
  induction l with
  | nil => rfl
  | cons x r ih => simp only [List.all_cons, List.any_cons, ih]; cases longX x <;> simp

theorem refCheckF_eq (l : List Fd) (hl : SmF l) : cellarerref12_CheckFired l = some (checkF l) := by
  unfold cellarerref12_CheckFired checkF
  have hl1 := hl.1
  rw [refLong_loop l hl1, long_all]
  cases ha : l.any longX
  · simp only [Bool.not_false, if_true, Option.bind_some, Sum.elim_inr]
    by_cases h : 64 < l.length
    · rw [decide_eq_true (show (64 : Int) < (l.length : Int) by omega), if_pos (.inl h)]
      rfl
    · rw [decide_eq_false (show ¬ (64 : Int) < (l.length : Int) by omega), if_neg (by simp [h])]
      have hs : ∀ x ∈ l, x.2.length ≤ 64 := fun x hx => by
        have := List.any_eq_false.mp ha x hx
        unfold longX at this
        simp at this
        omega
      simp only [cond_false]
      rw [refCheckF_loop l hl hs]
      cases allFrom (chkF l) 0 l <;> rfl
  · simp

end Go.Cellar
