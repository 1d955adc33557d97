/- Texts cut, and joined, by plain lists. No condition. -/
import Derived.Test.YtjjlkckemfdckaaDoorPl7n
set_option linter.unusedSimpArgs false
set_option linter.unusedVariables false
set_option maxRecDepth 4000
namespace Go.Cellar
open Go

/-! ### a loop that gathers -/

def mapE {α β E : Type} (f : Nat → α → E ⊕ β) : Nat → List α → E ⊕ List β
  | _, [] => .inr []
  | k, x :: r => match f k x with
    | .inl e => .inl e
    | .inr y => match mapE f (k + 1) r with
      | .inl e => .inl e
      | .inr ys => .inr (y :: ys)

theorem col_loop {α β E : Type} (B : Int × List β → Option ((Int × List β) ⊕ (E ⊕ List β))) (f : Nat → α → E ⊕ β) (l : List α)
    (hend : ∀ (k : Nat) (out : List β), l.length ≤ k → B ((k : Int), out) = some (.inr (.inr out)))
    (hgo : ∀ (k : Nat) (x : α) (r : List α) (out : List β), l.drop k = x :: r → out.length = k → B ((k : Int), out) = some (match f k x with | .inl e => .inr (.inl e) | .inr y => .inl (((k + 1 : Nat) : Int), out ++ [y]))) :
    ∀ (r : List α) (k : Nat) (out : List β), l.drop k = r → out.length = k → iter B ((k : Int), out) = some (match mapE f k r with | .inl e => .inl e | .inr ys => .inr (out ++ ys)) := by
  intro r
  induction r with
  | nil =>
    intro k out h ho
    rw [iter_inr (hend k out (drop_nil h))]
    simp [mapE]
  | cons x r ih =>
    intro k out h ho
    have hb := hgo k x r out h ho
    cases hf : f k x with
    | inl e =>
      rw [hf] at hb
      rw [iter_inr hb]
      simp [mapE, hf]
    | inr y =>
      rw [hf] at hb
      rw [iter_inl hb, ih (k + 1) (out ++ [y]) (drop_cons h x).2.2 (by simp [ho])]
      simp only [mapE, hf]
      cases mapE f (k + 1) r with
      | inl e => rfl
      | inr ys => simp

/-- The same without an early end. -/
theorem col_loop' {α β : Type} (B : Int × List β → Option ((Int × List β) ⊕ List β)) (f : α → β) (l : List α)
    (hend : ∀ (k : Nat) (out : List β), l.length ≤ k → B ((k : Int), out) = some (.inr out))
    (hgo : ∀ (k : Nat) (x : α) (r : List α) (out : List β), l.drop k = x :: r → out.length = k → B ((k : Int), out) = some (.inl (((k + 1 : Nat) : Int), out ++ [f x]))) :
    ∀ (r : List α) (k : Nat) (out : List β), l.drop k = r → out.length = k → iter B ((k : Int), out) = some (out ++ r.map f) := by
  intro r
  induction r with
  | nil =>
    intro k out h ho
    rw [iter_inr (hend k out (drop_nil h))]
    simp
  | cons x r ih =>
    intro k out h ho
    rw [iter_inl (hgo k x r out h ho), ih (k + 1) (out ++ [f x]) (drop_cons h x).2.2 (by simp [ho])]
    simp

theorem mapE_inr {α β E : Type} {f : Nat → α → E ⊕ β} : ∀ {l : List α} {k : Nat} {ys : List β}, mapE f k l = .inr ys → ys.length = l.length ∧ ∀ (i : Nat) (x : α) (y : β), l[i]? = some x → ys[i]? = some y → f (k + i) x = .inr y
  | [], k, ys, h => by
    simp only [mapE, Sum.inr.injEq] at h
    subst h
    exact ⟨rfl, fun i x y hx => by simp at hx⟩
  | x :: r, k, ys, h => by
    unfold mapE at h
    cases hf : f k x with
    | inl e => rw [hf] at h; cases h
    | inr y =>
      rw [hf] at h
      cases hm : mapE f (k + 1) r with
      | inl e => rw [hm] at h; cases h
      | inr zs =>
        rw [hm] at h
        simp only [Sum.inr.injEq] at h
        subst h
        obtain ⟨h1, h2⟩ := mapE_inr hm
        refine ⟨by simp [h1], fun i x' y' hx hy => ?_⟩
        cases i with
        | zero =>
          simp only [List.getElem?_cons_zero, Option.some.injEq] at hx hy
          subst hx hy
          simpa using hf
        | succ i =>
          have := h2 i x' y' (by simpa using hx) (by simpa using hy)
          rwa [show k + (i + 1) = k + 1 + i by omega]

theorem mapE_ok {α β E : Type} {f : Nat → α → E ⊕ β} (g : α → β) : ∀ (l : List α) (k : Nat), (∀ (i : Nat) (x : α), l[i]? = some x → f (k + i) x = .inr (g x)) → mapE f k l = .inr (l.map g)
  | [], k, _ => rfl
  | x :: r, k, h => by
    have h0 : f k x = .inr (g x) := by simpa using h 0 x rfl
    have h1 := mapE_ok g r (k + 1) fun i y hy => by
      have := h (i + 1) y (by simpa using hy)
      rwa [show k + (i + 1) = k + 1 + i by omega] at this
    simp only [mapE, h0, h1, List.map_cons]

/-! ### cut by one byte -/

def piecesC (c : UInt8) : List UInt8 → List UInt8 → List (List UInt8)
  | [], acc => [acc]
  | x :: r, acc => if x = c then acc :: piecesC c r [] else piecesC c r (acc ++ [x])

theorem piecesC_one (c : UInt8) : ∀ (x q acc : List UInt8), (∀ y ∈ x, y ≠ c) → piecesC c (x ++ c :: q) acc = (acc ++ x) :: piecesC c q []
  | [], q, acc, _ => by simp [piecesC]
  | y :: x, q, acc, h => by
    have hy : y ≠ c := h y (by simp)
    simp only [List.cons_append, piecesC, hy, if_false]
    rw [piecesC_one c x q (acc ++ [y]) fun z hz => h z (by simp [hz])]
    simp

theorem piecesC_none (c : UInt8) : ∀ (x acc : List UInt8), (∀ y ∈ x, y ≠ c) → piecesC c x acc = [acc ++ x]
  | [], acc, _ => by simp [piecesC]
  | y :: x, acc, h => by
    have hy : y ≠ c := h y (by simp)
    simp only [piecesC, hy, if_false]
    rw [piecesC_none c x (acc ++ [y]) fun z hz => h z (by simp [hz])]
    simp

theorem piecesC_len (c : UInt8) : ∀ (s acc : List UInt8), 1 ≤ (piecesC c s acc).length ∧ (piecesC c s acc).length ≤ s.length + 1
  | [], acc => by simp [piecesC]
  | x :: r, acc => by
    unfold piecesC
    split
    · have := piecesC_len c r []; simp; omega
    · have := piecesC_len c r (acc ++ [x]); simp; omega

theorem piecesC_small (c : UInt8) : ∀ (t acc : List UInt8) (n : Nat), acc.length + t.length ≤ n → ∀ x ∈ piecesC c t acc, x.length ≤ n
  | [], acc, n, h, x, hx => by simp only [piecesC, List.mem_singleton] at hx; subst hx; simp at h; omega
  | y :: r, acc, n, h, x, hx => by
    simp only [List.length_cons] at h
    unfold piecesC at hx
    split at hx
    · rcases List.mem_cons.mp hx with rfl | hx
      · omega
      · exact piecesC_small c r [] n (by simp; omega) x hx
    · exact piecesC_small c r (acc ++ [y]) n (by simp; omega) x hx

theorem slice1 {s : List UInt8} {k : Nat} {c : UInt8} {r : List UInt8} (h : s.drop k = c :: r) : (s.take (k + 1)).drop k = [c] := by
  rw [List.drop_take, h]
  simp

theorem u8C (c d : UInt8) : ((d.toNat : Int) = (c.toNat : Int)) = (d = c) := propext ⟨fun h => UInt8.toNat_inj.mp (by omega), fun h => by subst h; rfl⟩

theorem refSplitC_loop (c : UInt8) (s : List UInt8) (hs : s.length < 1000000000) : ∀ (r : List UInt8) (k : Nat) (acc : List UInt8) (out : List (List UInt8)), s.drop k = r → k + r.length = s.length → acc.length ≤ k → out.length ≤ k →
    ∃ acc' out', iter (cellarerref06_Split_b0 s (c.toNat : Int)) (acc, (k : Int), out) = some (acc', out') ∧ out' ++ [acc'] = out ++ piecesC c r acc ∧ acc'.length ≤ s.length ∧ out'.length ≤ s.length := by
  intro r
  induction r with
  | nil =>
    intro k acc out h hk ha ho
    simp only [List.length_nil] at hk
    refine ⟨acc, out, ?_, ?_, by omega, by omega⟩
    · rw [iter_inr (t := (acc, out))]
      unfold cellarerref06_Split_b0
      simp [show ¬ k < s.length by omega]
    · simp only [piecesC]
  | cons d r ih =>
    intro k acc out h hk ha ho
    simp only [List.length_cons] at hk
    obtain ⟨g1, g2, g3⟩ := drop_cons h 0
    have hb : cellarerref06_Split_b0 s (c.toNat : Int) (acc, (k : Int), out) = some (.inl (if d = c then ([], ((k + 1 : Nat) : Int), out ++ [acc]) else (acc ++ [d], ((k + 1 : Nat) : Int), out))) := by
      unfold cellarerref06_Split_b0
      simp only [natlt, g1, decide_true, cond_true, Int.natCast_nonneg, true_and, if_true, Int.toNat_natCast, g2, kplus g1 (by omega), u8C, slice1 h]
      by_cases hc : d = c
      · simp only [hc, decide_true, cond_true, if_true, List.drop_zero, List.length_cons, List.length_nil]
        rw [if_pos (by omega)]
      · simp only [hc, decide_false, cond_false, if_false, List.length_cons, List.length_nil]
        rw [if_pos (by omega), if_pos (by omega)]
    rw [iter_inl hb]
    by_cases hc : d = c
    · rw [if_pos hc]
      obtain ⟨acc', out', h1, h2, h3, h4⟩ := ih (k + 1) [] (out ++ [acc]) g3 (by omega) (by simp) (by simp; omega)
      refine ⟨acc', out', h1, ?_, h3, h4⟩
      rw [h2]
      simp only [piecesC, hc, if_true]
      simp
    · rw [if_neg hc]
      obtain ⟨acc', out', h1, h2, h3, h4⟩ := ih (k + 1) (acc ++ [d]) out g3 (by omega) (by simp; omega) (by omega)
      refine ⟨acc', out', h1, ?_, h3, h4⟩
      rw [h2]
      simp only [piecesC, hc, if_false]

theorem refSplitC (c : UInt8) (s : List UInt8) (hs : s.length < 1000000000) : cellarerref06_Split s (c.toNat : Int) = some (piecesC c s []) := by
  unfold cellarerref06_Split
  obtain ⟨acc, out, h1, h2, h3, h4⟩ := refSplitC_loop c s hs s 0 [] [] rfl (by simp) (by simp) (by simp)
  have h1' : iter (cellarerref06_Split_b0 s (c.toNat : Int)) ([], (0 : Int), []) = some (acc, out) := h1
  rw [h1']
  simp only [Option.bind_some, List.drop_zero, List.length_cons, List.length_nil]
  rw [if_pos (by omega), h2]
  simp

/-! ### cut by a text -/

theorem index_at {s sub : List UInt8} : ∀ {i : Nat}, Lib.index s sub = (i : Int) → ∃ q, s = s.take i ++ (sub ++ q) ∧ i + sub.length ≤ s.length := by
  induction s with
  | nil =>
    intro i h
    unfold Lib.index at h
    split at h
    · rename_i he
      have : sub = [] := by simpa using he
      subst this
      have : i = 0 := by omega
      subst this
      exact ⟨[], rfl, by simp⟩
    · omega
  | cons b l ih =>
    intro i h
    unfold Lib.index at h
    split at h
    · rename_i hp
      have : i = 0 := by omega
      subst this
      obtain ⟨q, hq⟩ := List.isPrefixOf_iff_prefix.mp hp
      refine ⟨q, by simp [hq], ?_⟩
      have := congrArg List.length hq
      simp at this
      simp; omega
    · split at h
      · omega
      · rename_i hne
        have hne' : Lib.index l sub ≠ -1 := by simpa using hne
        have hge := Lib.index_ge l sub
        obtain ⟨j, hj⟩ : ∃ j : Nat, Lib.index l sub = (j : Int) := ⟨(Lib.index l sub).toNat, by omega⟩
        rw [hj] at h
        have e : i = j + 1 := by omega
        subst e
        obtain ⟨q, h1, h2⟩ := ih hj
        exact ⟨q, by rw [List.take_succ_cons, List.cons_append, ← h1], by simp; omega⟩

theorem occ_char {s a b : List UInt8} {c : UInt8} {j : Nat} (h : Lib.occAt s (a ++ c :: b) j = true) : s[j + a.length]? = some c := by
  unfold Lib.occAt at h
  obtain ⟨q, hq⟩ := List.isPrefixOf_iff_prefix.mp h
  have : (s.drop j)[a.length]? = some c := by rw [← hq]; simp
  rwa [List.getElem?_drop] at this

/-- A text that stands behind one that lacks its mark. -/
theorem index_sep {x a b q : List UInt8} {c : UInt8} (hx : ∀ y ∈ x, y ≠ c) (ha : ∀ y ∈ a, y ≠ c) : Lib.index (x ++ (a ++ c :: b ++ q)) (a ++ c :: b) = (x.length : Int) := by
  refine Lib.index_first (by simp) ?_ fun j hj => ?_
  · unfold Lib.occAt
    rw [List.drop_left]
    exact List.isPrefixOf_iff_prefix.mpr ⟨q, rfl⟩
  · rw [Bool.eq_false_iff]
    intro h
    have h1 := occ_char h
    have h2 : (x ++ (a ++ c :: b ++ q)) = (x ++ a) ++ (c :: b ++ q) := by simp
    rw [h2, List.getElem?_append_left (by simp; omega)] at h1
    have hm := List.mem_of_getElem? h1
    rcases List.mem_append.mp hm with hm | hm
    · exact hx c hm rfl
    · exact ha c hm rfl

theorem index_no {x a b : List UInt8} {c : UInt8} (hx : ∀ y ∈ x, y ≠ c) : Lib.index x (a ++ c :: b) = -1 := by
  refine Lib.index_none fun j hj => ?_
  rw [Bool.eq_false_iff]
  intro h
  exact hx c (List.mem_of_getElem? (occ_char h)) rfl

/-- The parts between a text's places. -/
def splitT (sep : List UInt8) : Nat → List UInt8 → List (List UInt8)
  | 0, s => [s]
  | f + 1, s => if 0 ≤ Lib.index s sep then s.take (Lib.index s sep).toNat :: splitT sep f (s.drop ((Lib.index s sep).toNat + sep.length)) else [s]

theorem splitT_ne (sep : List UInt8) : ∀ (f : Nat) (s : List UInt8), splitT sep f s ≠ []
  | 0, s => by simp [splitT]
  | f + 1, s => by unfold splitT; split <;> simp

theorem splitT_len (sep : List UInt8) : ∀ (f : Nat) (s : List UInt8), 1 ≤ (splitT sep f s).length ∧ (splitT sep f s).length ≤ f + 1
  | 0, s => by simp [splitT]
  | f + 1, s => by
    unfold splitT
    split
    · have := splitT_len sep f (s.drop ((Lib.index s sep).toNat + sep.length)); simp; omega
    · simp

theorem splitT_small (sep : List UInt8) : ∀ (f : Nat) (s : List UInt8), ∀ x ∈ splitT sep f s, x.length ≤ s.length
  | 0, s, x, hx => by simp only [splitT, List.mem_singleton] at hx; subst hx; exact Nat.le_refl _
  | f + 1, s, x, hx => by
    unfold splitT at hx
    split at hx
    · rcases List.mem_cons.mp hx with rfl | hx
      · simp; omega
      · have := splitT_small sep f _ x hx
        simp at this; omega
    · simp only [List.mem_singleton] at hx; subst hx; exact Nat.le_refl _

theorem join_cons2 (x y : List UInt8) (r : List (List UInt8)) (sep : List UInt8) : Lib.join (x :: y :: r) sep = x ++ sep ++ Lib.join (y :: r) sep := by
  rw [Lib.join_cons, Lib.join_cons]
  simp [Lib.joinTail]

/-- The parts, joined, are the text. -/
theorem splitT_join (sep : List UInt8) : ∀ (f : Nat) (s : List UInt8), Lib.join (splitT sep f s) sep = s
  | 0, s => by simp [splitT, Lib.join_one]
  | f + 1, s => by
    unfold splitT
    split
    · rename_i h
      obtain ⟨i, hi⟩ : ∃ i : Nat, Lib.index s sep = (i : Int) := ⟨(Lib.index s sep).toNat, by omega⟩
      obtain ⟨q, h1, h2⟩ := index_at hi
      rw [hi, Int.toNat_natCast]
      have hd : s.drop (i + sep.length) = q := by
        conv => lhs; rw [h1]
        rw [List.drop_append]
        have hl : (s.take i).length = i := by rw [List.length_take]; omega
        rw [hl, List.drop_eq_nil_of_le (by omega), List.nil_append, Nat.add_sub_cancel_left, List.drop_left]
      have ih := splitT_join sep f (s.drop (i + sep.length))
      cases hp : splitT sep f (s.drop (i + sep.length)) with
      | nil => exact absurd hp (splitT_ne _ _ _)
      | cons y r =>
        rw [join_cons2, ← hp, ih, hd]
        conv => rhs; rw [h1]
        simp
    · simp [Lib.join_one]

/-- Texts that lack the mark, joined, are cut to what they were. -/
theorem splitT_of {a b : List UInt8} {c : UInt8} (ha : ∀ y ∈ a, y ≠ c) : ∀ (L : List (List UInt8)) (f : Nat), L ≠ [] → (∀ x ∈ L, ∀ y ∈ x, y ≠ c) → L.length ≤ f + 1 → splitT (a ++ c :: b) f (Lib.join L (a ++ c :: b)) = L
  | [], f, h, _, _ => absurd rfl h
  | [x], f, _, hx, _ => by
    rw [Lib.join_one]
    cases f with
    | zero => rfl
    | succ f =>
      unfold splitT
      rw [index_no (hx x (by simp)), if_neg (by omega)]
  | x :: y :: r, f, _, hx, hf => by
    cases f with
    | zero => simp at hf
    | succ f =>
      have hi : Lib.index (Lib.join (x :: y :: r) (a ++ c :: b)) (a ++ c :: b) = (x.length : Int) := by
        rw [join_cons2, List.append_assoc]
        exact index_sep (hx x (by simp)) ha
      unfold splitT
      rw [hi, if_pos (by omega), Int.toNat_natCast]
      have e1 : (Lib.join (x :: y :: r) (a ++ c :: b)).take x.length = x := by
        rw [join_cons2, List.append_assoc, List.take_left]
      have e2 : (Lib.join (x :: y :: r) (a ++ c :: b)).drop (x.length + (a ++ c :: b).length) = Lib.join (y :: r) (a ++ c :: b) := by
        rw [join_cons2, List.append_assoc, ← List.drop_drop, List.drop_left, List.drop_left]
      rw [e1, e2, splitT_of ha (y :: r) f (by simp) (fun z hz => hx z (by simp [hz])) (by simp at hf ⊢; omega)]

theorem strIndex (s sub : List UInt8) (hs : s.length < 4294967281) : strings_Index s sub = some (Lib.index s sub) := by
  unfold strings_Index
  rw [if_pos hs]

theorem sliteIndex (s sub : List UInt8) (hs : s.length < 4294967281) : stringslite_Index s sub = some (Lib.index s sub) := by
  unfold stringslite_Index
  rw [if_pos hs]

theorem count_loop (sep : List UInt8) (hsep : 1 ≤ sep.length) (hsl : sep.length < 100) : ∀ (f : Nat) (s : List UInt8) (n : Nat), s.length ≤ f → n + s.length < 1000000000 →
    iter (strings_Count_b0 sep) (s, (n : Int)) = some ((n + ((splitT sep f s).length - 1) : Nat) : Int) := by
  intro f
  induction f with
  | zero =>
    intro s n hf hs
    have h0 : s = [] := List.eq_nil_of_length_eq_zero (by omega)
    subst h0
    have hi : Lib.index [] sep = -1 := by
      unfold Lib.index
      rw [if_neg (by cases sep <;> simp at hsep ⊢)]
    rw [iter_inr (t := (n : Int))]
    · simp [splitT]
    · unfold strings_Count_b0
      rw [strIndex _ _ (by simp)]
      simp [hi]
  | succ f ih =>
    intro s n hf hs
    have hge := Lib.index_ge s sep
    by_cases h : 0 ≤ Lib.index s sep
    · obtain ⟨i, hi⟩ : ∃ i : Nat, Lib.index s sep = (i : Int) := ⟨(Lib.index s sep).toNat, by omega⟩
      obtain ⟨q, h1, h2⟩ := index_at hi
      have hd : (s.drop (i + sep.length)).length ≤ f := by simp; omega
      have hl := splitT_len sep f (s.drop (i + sep.length))
      rw [iter_inl (s' := (s.drop (i + sep.length), ((n + 1 : Nat) : Int)))]
      · have hspl : splitT sep (f + 1) s = s.take i :: splitT sep f (s.drop (i + sep.length)) := by
          conv => lhs; unfold splitT
          rw [hi, if_pos (by omega), Int.toNat_natCast]
        rw [ih _ (n + 1) hd (by simp; omega), hspl]
        simp only [List.length_cons]
        congr 2
        omega
      · unfold strings_Count_b0
        simp only [strIndex _ _ (show s.length < 4294967281 by omega), Option.bind_some, hi, show ¬ ((i : Int) = -1) by omega, decide_false, cond_false]
        rw [w64 (n := (i : Int) + (sep.length : Int)) (by omega) (by omega), if_pos (by omega), w64 (by omega) (by omega)]
        have : Int.toNat ((i : Int) + (sep.length : Int)) = i + sep.length := by omega
        rw [this]
        simp
    · have hm : Lib.index s sep = -1 := by omega
      rw [iter_inr (t := (n : Int))]
      · unfold splitT
        rw [if_neg h]
        simp
      · unfold strings_Count_b0
        simp [strIndex _ _ (show s.length < 4294967281 by omega), hm]

theorem count_eq (s sep : List UInt8) (hsep : 2 ≤ sep.length) (hsl : sep.length < 100) (hs : s.length < 1000000000) : strings_Count s sep = some (((splitT sep s.length s).length - 1 : Nat) : Int) := by
  unfold strings_Count
  have h := count_loop sep (by omega) hsl s.length s 0 (Nat.le_refl _) (by omega)
  have h' : iter (strings_Count_b0 sep) (s, (0 : Int)) = _ := h
  simp only [show ¬ ((sep.length : Int) = 0) by omega, show ¬ ((sep.length : Int) = 1) by omega, decide_false, cond_false, h', Option.bind_some]
  congr 2
  omega

theorem set_take {α : Type} (a : List α) (i : Nat) (v : α) (h : i < a.length) : (a.set i v).take (i + 1) = a.take i ++ [v] := by
  rw [List.take_succ_eq_append_getElem (by simpa using h)]
  simp [List.take_set_of_le]

theorem split_loop (sep : List UInt8) (hsep : 1 ≤ sep.length) (hsl : sep.length < 100) (n : Nat) (hn : n < 1000000000) : ∀ (f : Nat) (i : Nat) (s : List UInt8) (a : List (List UInt8)), s.length ≤ f → i + ((splitT sep f s).length - 1) = n → s.length < 1000000000 → a.length = n + 1 →
    ∃ s' a', iter (strings_genSplit_b0 sep 0 (n : Int)) (s, (i : Int), a) = some (s', (n : Int), a') ∧ a'.length = n + 1 ∧ a'.take n ++ [s'] = a.take i ++ splitT sep f s := by
  intro f
  induction f with
  | zero =>
    intro i s a hf hi hs ha
    simp only [splitT, List.length_cons, List.length_nil] at hi
    have e : i = n := by omega
    subst e
    refine ⟨s, a, ?_, ha, by simp [splitT]⟩
    rw [iter_inr (t := (s, (i : Int), a))]
    unfold strings_genSplit_b0
    simp
  | succ f ih =>
    intro i s a hf hi hs ha
    have hge := Lib.index_ge s sep
    by_cases h : 0 ≤ Lib.index s sep
    · obtain ⟨m, hm⟩ : ∃ m : Nat, Lib.index s sep = (m : Int) := ⟨(Lib.index s sep).toNat, by omega⟩
      obtain ⟨q, h1, h2⟩ := index_at hm
      have hspl : splitT sep (f + 1) s = s.take m :: splitT sep f (s.drop (m + sep.length)) := by
        conv => lhs; unfold splitT
        rw [hm, if_pos (by omega), Int.toNat_natCast]
      have hl := splitT_len sep f (s.drop (m + sep.length))
      rw [hspl] at hi
      simp only [List.length_cons] at hi
      obtain ⟨s', a', g1, g2, g3⟩ := ih (i + 1) (s.drop (m + sep.length)) (a.set i (s.take m)) (by simp; omega) (by omega) (by simp; omega) (by simpa using ha)
      refine ⟨s', a', ?_, g2, ?_⟩
      · rw [iter_inl (s' := (s.drop (m + sep.length), ((i + 1 : Nat) : Int), a.set i (s.take m))), g1]
        unfold strings_genSplit_b0
        have e1 : IntKind.wrap IntKind.i64 ((m : Int) + 0) = (m : Int) := by rw [w64 (by omega) (by omega)]; omega
        have e2 : IntKind.wrap IntKind.i64 ((m : Int) + ((sep.length : Nat) : Int)) = ((m + sep.length : Nat) : Int) := by rw [w64 (by omega) (by omega)]; omega
        have e3 : IntKind.wrap IntKind.i64 ((i : Int) + 1) = ((i + 1 : Nat) : Int) := by rw [w64 (by omega) (by omega)]; omega
        simp only [natlt, show i < n by omega, decide_true, cond_true, strIndex _ _ (show s.length < 4294967281 by omega), hm, Option.bind_some, show ¬ ((m : Int) < 0) by omega, decide_false, cond_false, e1, e2, e3, Int.toNat_natCast, Nat.zero_add, List.take_length]
        rw [if_pos (by omega), if_pos (by omega), if_pos (by omega), if_pos (by omega)]
        rfl
      · rw [g3, set_take a i _ (by omega), hspl]
        simp
    · have hspl : splitT sep (f + 1) s = [s] := by
        conv => lhs; unfold splitT
        rw [if_neg h]
      rw [hspl] at hi ⊢
      simp only [List.length_cons, List.length_nil] at hi
      have e : i = n := by omega
      subst e
      refine ⟨s, a, ?_, ha, rfl⟩
      rw [iter_inr (t := (s, (i : Int), a))]
      unfold strings_genSplit_b0
      simp

theorem split_eq (s sep : List UInt8) (hsep : 2 ≤ sep.length) (hsl : sep.length < 100) (hs : s.length < 900000000) : strings_Split s sep = some (splitT sep s.length s) := by
  unfold strings_Split strings_genSplit
  have hl := splitT_len sep s.length s
  obtain ⟨C, hC⟩ : ∃ C, C = (splitT sep s.length s).length - 1 := ⟨_, rfl⟩
  have hcl : C ≤ s.length := by omega
  have e1 : IntKind.wrap IntKind.i64 ((C : Int) + 1) = ((C + 1 : Nat) : Int) := by rw [w64 (by omega) (by omega)]; omega
  have e2 : IntKind.wrap IntKind.i64 ((s.length : Int) + 1) = ((s.length + 1 : Nat) : Int) := by rw [w64 (by omega) (by omega)]; omega
  have e3 : (if ((s.length + 1 : Nat) : Int) < ((C + 1 : Nat) : Int) then ((s.length + 1 : Nat) : Int) else ((C + 1 : Nat) : Int)) = ((C + 1 : Nat) : Int) := by rw [if_neg (by omega)]
  have e4 : IntKind.wrap IntKind.i64 (((C + 1 : Nat) : Int) - 1) = ((C : Nat) : Int) := by rw [w64 (by omega) (by omega)]; omega
  obtain ⟨s', a', h1, h2, h3⟩ := split_loop sep (by omega) hsl C (by omega) s.length 0 s (List.replicate (C + 1) []) (Nat.le_refl _) (by omega) (by omega) (by simp)
  have hne : ¬ (sep = []) := by rintro rfl; simp at hsep
  have hct := count_eq s sep hsep hsl (by omega)
  rw [← hC] at hct
  simp only [show ¬ ((-1 : Int) = 0) by omega, decide_false, cond_false, hne, show ((-1 : Int) < 0) by omega, decide_true, cond_true, hct, Option.bind_some, e1, e2, e3, e4, Int.toNat_natCast]
  have h1' : iter (strings_genSplit_b0 sep 0 (C : Int)) (s, (0 : Int), List.replicate (C + 1) []) = some (s', (C : Int), a') := h1
  rw [if_pos (by omega), h1']
  simp only [Option.bind_some, Int.toNat_natCast, Nat.zero_add, e1, List.length_set]
  rw [if_pos (by omega), if_pos (by omega), if_pos (by omega), set_take a' _ _ (by omega), h3]
  simp

/-! ### cut once -/

def cutV (s sep : List UInt8) : List UInt8 × List UInt8 × Bool :=
  if 0 ≤ Lib.index s sep then (s.take (Lib.index s sep).toNat, s.drop ((Lib.index s sep).toNat + sep.length), true) else (s, [], false)

theorem cut_eq (s sep : List UInt8) (hs : s.length < 1000000000) (hsl : sep.length < 100) : strings_Cut s sep = some (cutV s sep) := by
  unfold strings_Cut stringslite_Cut cutV
  rw [sliteIndex _ _ (by omega), Option.bind_some]
  by_cases h : 0 ≤ Lib.index s sep
  · obtain ⟨m, hm⟩ : ∃ m : Nat, Lib.index s sep = (m : Int) := ⟨(Lib.index s sep).toNat, by omega⟩
    obtain ⟨q, h1, h2⟩ := index_at hm
    have e2 : IntKind.wrap IntKind.i64 ((m : Int) + ((sep.length : Nat) : Int)) = ((m + sep.length : Nat) : Int) := by rw [w64 (by omega) (by omega)]; omega
    rw [hm]
    simp only [Int.natCast_nonneg, decide_true, cond_true, if_true, e2, Int.toNat_natCast, List.take_length, true_and]
    rw [if_pos (by omega), if_pos (by omega)]
    rfl
  · simp only [h, decide_false, cond_false, if_false, Option.bind_some]

theorem trimSuffix_eq (s : List UInt8) (hs : s.length < 1000000000) (c : UInt8) : strings_TrimSuffix s [c] = some (if s.getLast? = some c then s.dropLast else s) := by
  unfold strings_TrimSuffix stringslite_TrimSuffix stringslite_HasSuffix
  by_cases h : 1 ≤ s.length
  · have hd : decide (((([c] : List UInt8).length : Nat) : Int) ≤ (s.length : Int)) = true := by simp; omega
    have ew : IntKind.wrap IntKind.i64 ((s.length : Int) - ((([c] : List UInt8).length : Nat) : Int)) = ((s.length - 1 : Nat) : Int) := by
      rw [w64 (by simp; omega) (by simp; omega)]; simp; omega
    have hdl : s.drop (s.length - 1) = [s.getD (s.length - 1) 0] := by
      rw [List.drop_eq_getElem_cons (by omega), List.getD_eq_getElem?_getD, List.getElem?_eq_getElem (by omega), List.drop_eq_nil_of_le (by omega)]
      rfl
    have hg : (s.getLast? = some c) = (s.getD (s.length - 1) 0 = c) := by
      rw [List.getLast?_eq_getElem?, List.getD_eq_getElem?_getD, List.getElem?_eq_getElem (show s.length - 1 < s.length by omega)]
      simp
    simp only [hd, cond_true, ew, Int.toNat_natCast, List.take_length, hdl, Option.bind_some]
    rw [if_pos (by omega)]
    by_cases hc : s.getD (s.length - 1) 0 = c
    · simp only [hc, decide_true, cond_true, Option.bind_some]
      rw [if_pos (by omega), if_pos (by rw [hg]; exact hc)]
      simp [List.dropLast_eq_take]
    · have : ¬ ([s.getD (s.length - 1) 0] = [c]) := by simpa using hc
      simp only [this, decide_false, cond_false, Option.bind_some]
      rw [if_neg (by rw [hg]; exact hc)]
  · have h0 : s = [] := List.eq_nil_of_length_eq_zero (by omega)
    subst h0
    rfl

/-! ### joined -/

theorem sjoin (l : List (List UInt8)) (sep : List UInt8) (h : l.length ≤ 1000000000) (h2 : (Lib.join l sep).length ≤ 140737488355328) : strings_Join l sep = some (Lib.join l sep) := by
  unfold strings_Join
  rw [if_pos ⟨by omega, h2⟩]

theorem join_append (L : List (List UInt8)) (x sep : List UInt8) : Lib.join (L ++ [x]) sep = if L = [] then x else Lib.join L sep ++ sep ++ x := by
  cases L with
  | nil => simp [Lib.join_one]
  | cons y r =>
    rw [if_neg (by simp), List.cons_append, Lib.join_cons, Lib.join_cons]
    simp [Lib.joinTail]

theorem join_bound (sep : List UInt8) (n : Nat) : ∀ (l : List (List UInt8)), (∀ x ∈ l, x.length ≤ n) → (Lib.join l sep).length ≤ l.length * (n + sep.length)
  | [], _ => by simp [Lib.join_nil]
  | x :: r, h => by
    rw [Lib.join_length]
    have hb : ∀ r : List (List UInt8), (∀ x ∈ r, x.length ≤ n) → Lib.lens r ≤ r.length * n := by
      intro r
      induction r with
      | nil => intro _; simp [Lib.lens]
      | cons y r ih =>
        intro h
        have h1 := ih fun z hz => h z (by simp [hz])
        have h2 := h y (by simp)
        simp only [Lib.lens, List.map_cons, List.sum_cons, List.length_cons] at h1 ⊢
        rw [Nat.add_mul]; omega
    have h1 := hb (x :: r) h
    simp only [List.length_cons, Nat.mul_add, Nat.add_mul, Nat.mul_comm] at h1 ⊢
    omega

theorem refJoin_loop (L : List (List UInt8)) (sep : List UInt8) (n : Nat) (hL : L.length ≤ 100000) (hn : L.length * (n + sep.length) ≤ 140000000000000) (hsl : sep.length < 100) (hx : ∀ x ∈ L, x.length ≤ n) : ∀ (r : List (List UInt8)) (k : Nat) (t : List UInt8), L.drop k = r → t = Lib.join (L.take k) sep →
    iter (cellarerref06_Join_b0 L sep) (t, (k : Int)) = some (Lib.join L sep) := by
  intro r
  induction r with
  | nil =>
    intro k t h ht
    have hk := drop_nil h
    rw [iter_inr (t := t), ht, List.take_of_length_le hk]
    unfold cellarerref06_Join_b0
    simp [show ¬ k < L.length by omega]
  | cons x r ih =>
    intro k t h ht
    obtain ⟨g1, g2, g3⟩ := drop_cons h []
    have hxm : x ∈ L := List.mem_of_mem_drop (by rw [h]; simp)
    have hxn := hx x hxm
    have hb := join_bound sep n (L.take k) fun y hy => hx y (List.mem_of_mem_take hy)
    have hlk : (L.take k).length = k := by rw [List.length_take]; omega
    rw [hlk] at hb
    have hb2 : (k + 1) * (n + sep.length) ≤ L.length * (n + sep.length) := Nat.mul_le_mul_right _ (by omega)
    rw [Nat.add_mul, Nat.one_mul] at hb2
    have htk : L.take (k + 1) = L.take k ++ [x] := by
      rw [List.take_succ_eq_append_getElem g1]
      have : L[k] = x := by
        rw [List.getD_eq_getElem?_getD, List.getElem?_eq_getElem g1] at g2
        simpa using g2
      rw [this]
    have hj := join_append (L.take k) x sep
    rw [← htk] at hj
    rw [iter_inl (s' := (Lib.join (L.take (k + 1)) sep, ((k + 1 : Nat) : Int))), ih (k + 1) _ g3 rfl]
    unfold cellarerref06_Join_b0
    simp only [natlt, g1, decide_true, cond_true, Int.natCast_nonneg, true_and, if_true, Int.toNat_natCast, g2, kplus g1 (by omega)]
    by_cases hk : k = 0
    · subst hk
      have ht' : t = [] := by rw [ht]; simp [Lib.join_nil]
      subst ht'
      simp only [show ¬ ((0 : Int) < ((0 : Nat) : Int)) by omega, decide_false, cond_false, Option.bind_some, List.length_nil, List.nil_append]
      rw [if_pos (by omega), hj]
      simp
    · have hne : L.take k ≠ [] := fun e => by rw [e] at hlk; simp at hlk; omega
      simp only [show ((0 : Int) < (k : Int)) by omega, decide_true, cond_true]
      rw [ht, if_pos (by omega)]
      simp only [Option.bind_some, List.length_append]
      rw [if_pos (by omega), hj, if_neg hne]

theorem refJoin (L : List (List UInt8)) (sep : List UInt8) (n : Nat) (hL : L.length ≤ 100000) (hn : L.length * (n + sep.length) ≤ 140000000000000) (hsl : sep.length < 100) (hx : ∀ x ∈ L, x.length ≤ n) : cellarerref06_Join L sep = some (Lib.join L sep) := by
  unfold cellarerref06_Join
  have h : iter (cellarerref06_Join_b0 L sep) ([], (0 : Int)) = _ := refJoin_loop L sep n hL hn hsl hx L 0 [] rfl (by simp [Lib.join_nil])
  rw [h]
  rfl

end Go.Cellar
