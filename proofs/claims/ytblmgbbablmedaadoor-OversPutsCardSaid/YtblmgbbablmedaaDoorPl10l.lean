/- Lines, by plain lists: read, and joined again. No condition. -/
import Derived.Test.YtblmgbbablmedaaDoorPl10d
set_option linter.unusedSimpArgs false
set_option linter.unusedVariables false
set_option maxRecDepth 4000
namespace Go.Cellar
open Go

theorem allFrom_iff {α : Type} (p : Nat → α → Bool) : ∀ (l : List α) (k : Nat), allFrom p k l = true ↔ ∀ i c, l[i]? = some c → p (k + i) c = true := by
  intro l
  induction l with
  | nil => intro k; simp [allFrom]
  | cons x r ih =>
    intro k
    simp only [allFrom, Bool.and_eq_true, ih]
    constructor
    · rintro ⟨h1, h2⟩ i c hi
      cases i with
      | zero => simp only [List.getElem?_cons_zero, Option.some.injEq] at hi; subst hi; exact h1
      | succ i =>
        have := h2 i c (by simpa using hi)
        rw [show k + (i + 1) = k + 1 + i by omega]; exact this
    · intro h
      refine ⟨h 0 x rfl, fun i c hi => ?_⟩
      have := h (i + 1) c (by simpa using hi)
      rw [show k + (i + 1) = k + 1 + i by omega] at this; exact this

def linesV (s : List UInt8) : Bool × List (List UInt8) := if s = [] then (true, []) else if endsSl_L s = true then (true, pieces_L s.dropLast []) else (false, [])

theorem dropLast_ends {s : List UInt8} (h : endsSl_L s = true) : s = s.dropLast ++ [10] := by
  have hne : s ≠ [] := by rintro rfl; simp [endsSl_L] at h
  have : s.getLast? = some 10 := by simpa [endsSl_L] using h
  rw [List.getLast?_eq_some_getLast hne] at this
  simp only [Option.some.injEq] at this
  conv => lhs; rw [← List.dropLast_concat_getLast hne, this]

theorem lines_eq (s : List UInt8) (hs : s.length < 1000000) : stanza_Lines s = some (if (linesV s).1 = true then 0 else 2, (linesV s).2) := by
  unfold stanza_Lines linesV
  by_cases h : s = []
  · simp [h]
  · have hp : 0 < s.length := List.length_pos_iff.mpr h
    rw [hasSuffix_eq_L s (by omega)]
    by_cases he : endsSl_L s = true
    · have e : IntKind.wrap IntKind.i64 ((s.length : Int) - 1) = ((s.length - 1 : Nat) : Int) := by rw [w64 (by omega) (by omega)]; omega
      simp only [h, he, decide_false, cond_false, if_false, if_true, Option.bind_some, Bool.not_true, e, Int.toNat_natCast, dropLast_take]
      rw [if_pos (by omega)]
      unfold strings_Split
      have h0 : List.drop (Int.toNat (0 : Int)) s.dropLast = s.dropLast := rfl
      rw [h0, genSplit_eq_L _ (by rw [List.length_dropLast]; omega)]
      rfl
    · have hf : endsSl_L s = false := by simpa using he
      simp [h, hf]

theorem refSplit_loop_L (s : List UInt8) (hs : s.length < 1000000) : ∀ (r : List UInt8) (k : Nat) (acc : List UInt8) (out : List (List UInt8)), s.drop k = r → k + r.length = s.length → acc.length ≤ k → out.length ≤ k →
    ∃ acc' out', iter (cellarerref06_Split_b0 s 10) (acc, (k : Int), out) = some (acc', out') ∧ out' ++ [acc'] = out ++ pieces_L r acc ∧ acc'.length ≤ s.length ∧ out'.length ≤ s.length := by
  intro r
  induction r with
  | nil =>
    intro k acc out h hk ha ho
    simp only [List.length_nil] at hk
    refine ⟨acc, out, ?_, ?_, by omega, by omega⟩
    · rw [iter_inr (t := (acc, out))]
      unfold cellarerref06_Split_b0
      simp [show ¬ k < s.length by omega]
    · simp only [pieces_L]
  | cons c r ih =>
    intro k acc out h hk ha ho
    simp only [List.length_cons] at hk
    obtain ⟨g1, g2, g3⟩ := drop_cons h 0
    have hb : cellarerref06_Split_b0 s 10 (acc, (k : Int), out) = some (.inl (if c = 10 then ([], ((k + 1 : Nat) : Int), out ++ [acc]) else (acc ++ [c], ((k + 1 : Nat) : Int), out))) := by
      unfold cellarerref06_Split_b0
      simp only [natlt, g1, decide_true, cond_true, Int.natCast_nonneg, true_and, if_true, Int.toNat_natCast, g2, kplus g1 (by omega), u8_L, slice1 h]
      by_cases hc : c = 10
      · simp only [hc, decide_true, cond_true, if_true, List.drop_zero, List.length_cons, List.length_nil]
        rw [if_pos (by omega)]
      · simp only [hc, decide_false, cond_false, if_false, List.length_cons, List.length_nil]
        rw [if_pos (by omega), if_pos (by omega)]
    rw [iter_inl hb]
    by_cases hc : c = 10
    · rw [if_pos hc]
      obtain ⟨acc', out', h1, h2, h3, h4⟩ := ih (k + 1) [] (out ++ [acc]) g3 (by omega) (by simp) (by simp; omega)
      refine ⟨acc', out', h1, ?_, h3, h4⟩
      rw [h2]
      simp only [pieces_L, hc, if_true]
      simp
    · rw [if_neg hc]
      obtain ⟨acc', out', h1, h2, h3, h4⟩ := ih (k + 1) (acc ++ [c]) out g3 (by omega) (by simp; omega) (by omega)
      refine ⟨acc', out', h1, ?_, h3, h4⟩
      rw [h2]
      simp only [pieces_L, hc, if_false]

theorem refSplit_eq_L (s : List UInt8) (hs : s.length < 1000000) : cellarerref06_Split s 10 = some (pieces_L s []) := by
  unfold cellarerref06_Split
  obtain ⟨acc, out, h1, h2, h3, h4⟩ := refSplit_loop_L s hs s 0 [] [] rfl (by simp) (by simp) (by simp)
  have h1' : iter (cellarerref06_Split_b0 s 10) (([] : List UInt8), (0 : Int), ([] : List (List UInt8))) = some (acc, out) := h1
  rw [h1']
  simp only [List.nil_append] at h2
  simp only [Option.bind_some, List.drop_zero, List.length_cons, List.length_nil]
  rw [if_pos (by omega), h2]

theorem pieces_snoc : ∀ (t acc : List UInt8), pieces_L (t ++ [10]) acc = pieces_L t acc ++ [[]] := by
  intro t
  induction t with
  | nil => intro acc; simp [pieces_L]
  | cons c r ih =>
    intro acc
    simp only [List.cons_append, pieces_L]
    split
    · rw [ih]; simp
    · rw [ih]

theorem pieces_last : ∀ (t acc : List UInt8) (c : UInt8), c ≠ 10 → ∃ q x, pieces_L (t ++ [c]) acc = q ++ [x ++ [c]] := by
  intro t
  induction t with
  | nil => intro acc c hc; exact ⟨[], acc, by simp [pieces_L, hc]⟩
  | cons y r ih =>
    intro acc c hc
    simp only [List.cons_append, pieces_L]
    split
    · obtain ⟨q, x, h⟩ := ih [] c hc
      exact ⟨acc :: q, x, by rw [h]; simp⟩
    · exact ih _ c hc

theorem pieces_ne : ∀ (t acc : List UInt8), pieces_L t acc ≠ [] := by
  intro t
  induction t with
  | nil => intro acc; simp [pieces_L]
  | cons c r ih =>
    intro acc
    simp only [pieces_L]
    split
    · simp
    · exact ih _

/-- The document's lines: the same, where it is right; else some lines. -/
theorem refLines_eq (s : List UInt8) (hs : s.length < 1000000) : cellarerref06_Lines s = some ((linesV s).1, (pieces_L s []).dropLast) ∧ ((linesV s).1 = true → (linesV s).2 = (pieces_L s []).dropLast) := by
  have hlen := pieces_L_len s []
  have hne := pieces_ne s []
  have hpos : 0 < (pieces_L s []).length := List.length_pos_iff.mpr hne
  constructor
  · unfold cellarerref06_Lines
    rw [refSplit_eq_L s hs]
    have e : IntKind.wrap IntKind.i64 (((pieces_L s []).length : Int) - ((0 : Nat) : Int) - 1) = (((pieces_L s []).length - 1 : Nat) : Int) := by rw [w64 (by omega) (by omega)]; omega
    simp only [Option.bind_some, e, Int.toNat_natCast, Nat.zero_add]
    rw [if_pos (by omega), if_pos (by omega), if_pos (by omega), dropLast_take]
    have e2 : (pieces_L s []).getD ((pieces_L s []).length - 1) [] = (pieces_L s []).getLast hne := by
      rw [List.getD_eq_getElem?_getD, List.getElem?_eq_getElem (by omega), List.getLast_eq_getElem]; rfl
    rw [e2]
    congr 2
    unfold linesV
    by_cases h : s = []
    · subst h; rfl
    · by_cases he : endsSl_L s = true
      · have hd := dropLast_ends he
        have hq : ∀ (l : List (List UInt8)) (hn : l ≠ []), l = pieces_L s.dropLast [] ++ [[]] → l.getLast hn = [] := by
          intro l hn hl; subst hl; simp
        rw [hq _ hne (by conv => lhs; rw [hd, pieces_snoc])]
        simp [h, he]
      · have hlast := List.dropLast_concat_getLast h
        have hc : s.getLast h ≠ 10 := by
          intro e
          apply he
          unfold endsSl_L
          rw [List.getLast?_eq_some_getLast h, e]
          simp
        obtain ⟨q, x, hqx⟩ := pieces_last s.dropLast [] _ hc
        rw [hlast] at hqx
        have hq : ∀ (l : List (List UInt8)) (hn : l ≠ []), l = q ++ [x ++ [s.getLast h]] → l.getLast hn ≠ [] := by
          intro l hn hl; subst hl; simp
        have := hq _ hne hqx
        simp [h, he, this]
  · intro h1
    unfold linesV at h1 ⊢
    by_cases h : s = []
    · subst h; rfl
    · by_cases he : endsSl_L s = true
      · have hd := dropLast_ends he
        simp only [h, he, if_false, if_true]
        conv => rhs; rw [hd, pieces_snoc]
        simp
      · simp [h, he] at h1

theorem linesV_len (s : List UInt8) : (linesV s).2.length ≤ s.length + 1 := by
  unfold linesV
  split
  · simp
  · split
    · have := pieces_L_len s.dropLast []
      rw [List.length_dropLast] at this
      simp only
      omega
    · simp

def joinL (l : List (List UInt8)) : List UInt8 := l.flatMap fun x => x ++ [10]

theorem pieces_join : ∀ (t acc : List UInt8), joinL (pieces_L t acc) = acc ++ t ++ [10] := by
  intro t
  induction t with
  | nil => intro acc; simp [pieces_L, joinL]
  | cons c r ih =>
    intro acc
    simp only [pieces_L]
    split
    · rename_i hc
      subst hc
      have := ih []
      simp only [joinL, List.flatMap_cons] at this ⊢
      rw [this]
      simp
    · rw [ih]; simp

theorem lines_join {s : List UInt8} (h : (linesV s).1 = true) : joinL (linesV s).2 = s := by
  unfold linesV at h ⊢
  by_cases h0 : s = []
  · subst h0; rfl
  · by_cases he : endsSl_L s = true
    · simp only [h0, he, if_false, if_true, pieces_join, List.nil_append]
      exact (dropLast_ends he).symm
    · simp [h0, he] at h

theorem pieces_small : ∀ (t acc : List UInt8) (n : Nat), acc.length + t.length ≤ n → ∀ x ∈ pieces_L t acc, x.length ≤ n := by
  intro t
  induction t with
  | nil => intro acc n h x hx; simp [pieces_L] at hx; subst hx; simpa using h
  | cons c r ih =>
    intro acc n h x hx
    simp only [List.length_cons] at h
    simp only [pieces_L] at hx
    split at hx
    · rcases List.mem_cons.mp hx with rfl | hx
      · omega
      · exact ih [] n (by simp; omega) x hx
    · exact ih _ n (by simp; omega) x hx

theorem plain_no10 {s : List UInt8} (h : rightV s = true) : ∀ c ∈ s, c ≠ 10 := by
  unfold rightV at h
  simp only [Bool.and_eq_true, decide_eq_true_eq] at h
  have hp : plainV s = true := by
    cases hq : plainV s with
    | true => rfl
    | false => rw [cleanV, if_neg (by rw [hq]; simp)] at h; cases h.1
  unfold plainV at hp
  simp only [Bool.and_eq_true, List.all_eq_true] at hp
  intro c hc e
  have := hp.1 c hc
  subst e
  revert this; decide

theorem allFrom_mem {α : Type} (p : Nat → α → Bool) (l : List α) (h : allFrom p 0 l = true) : ∀ c ∈ l, ∃ k, p k c = true := by
  intro c hc
  obtain ⟨i, hi⟩ := List.getElem?_of_mem hc
  exact ⟨_, (allFrom_iff p l 0).mp h i c hi⟩

theorem pieces_one : ∀ (x q acc : List UInt8), (∀ c ∈ x, c ≠ 10) → pieces_L (x ++ 10 :: q) acc = (acc ++ x) :: pieces_L q [] := by
  intro x
  induction x with
  | nil => intro q acc _; simp [pieces_L]
  | cons c r ih =>
    intro q acc h
    have hc := h c (by simp)
    simp only [List.cons_append, pieces_L, hc, if_false]
    rw [ih q _ (fun y hy => h y (by simp [hy]))]
    simp

theorem pieces_of : ∀ (L : List (List UInt8)), (∀ x ∈ L, ∀ c ∈ x, c ≠ 10) → pieces_L (joinL L) [] = L ++ [[]] := by
  intro L
  induction L with
  | nil => intro _; rfl
  | cons x r ih =>
    intro h
    have e : joinL (x :: r) = x ++ 10 :: joinL r := by simp [joinL]
    rw [e, pieces_one x _ [] (h x (by simp)), ih (fun y hy => h y (by simp [hy]))]
    simp

theorem lines_of (L : List (List UInt8)) (h : ∀ x ∈ L, ∀ c ∈ x, c ≠ 10) : linesV (joinL L) = (true, L) := by
  have hp := pieces_of L h
  unfold linesV
  by_cases h0 : joinL L = []
  · rw [h0] at hp ⊢
    have : L = [] := by
      cases L with
      | nil => rfl
      | cons x r => simp [joinL] at h0
    subst this
    rfl
  · have hL : L ≠ [] := by rintro rfl; exact h0 rfl
    have he : endsSl_L (joinL L) = true := by
      have : joinL L = joinL L.dropLast ++ L.getLast hL ++ [10] := by
        conv => lhs; rw [← List.dropLast_concat_getLast hL]
        simp [joinL]
      unfold endsSl_L
      rw [this]
      simp
    have hd := dropLast_ends he
    rw [hd, pieces_snoc] at hp
    have hp' := List.append_cancel_right hp
    simp [h0, he, hp']

end Go.Cellar
