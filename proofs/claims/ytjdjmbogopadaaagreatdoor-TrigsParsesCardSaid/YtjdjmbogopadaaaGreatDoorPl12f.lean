/- A text as lines: by plain lists. No condition. -/
import Derived.Test.YtjdjmbogopadaaaGreatDoorPl12e
set_option linter.unusedSimpArgs false
set_option linter.unusedVariables false
set_option maxRecDepth 4000
namespace Go.Cellar
open Go

theorem allFrom_iff {α : Type} (p : Nat → α → Bool) : ∀ (l : List α) (k : Nat), allFrom p k l = true ↔ ∀ i c, l[i]? = some c → p (k + i) c = true := by
  intro l
  induction l with
  | nil => intro k; simp [allFrom]
  | cons x r ih =>
    intro k
    simp only [allFrom, Bool.and_eq_true, ih]
    constructor
    · rintro ⟨h1, h2⟩ i c hi
      cases i with
      | zero => simp only [List.getElem?_cons_zero, Option.some.injEq] at hi; subst hi; exact h1
      | succ i =>
        have := h2 i c (by simpa using hi)
        rw [show k + (i + 1) = k + 1 + i by omega]; exact this
    · intro h
      refine ⟨h 0 x rfl, fun i c hi => ?_⟩
      have := h (i + 1) c (by simpa using hi)
      rw [show k + (i + 1) = k + 1 + i by omega] at this; exact this

def linesV (s : List UInt8) : Bool × List (List UInt8) := if s = [] then (true, []) else if endsSl_L s = true then (true, pieces_L s.dropLast []) else (false, [])

theorem dropLast_ends {s : List UInt8} (h : endsSl_L s = true) : s = s.dropLast ++ [10] := by
  have hne : s ≠ [] := by rintro rfl; simp [endsSl_L] at h
  have : s.getLast? = some 10 := by simpa [endsSl_L] using h
  rw [List.getLast?_eq_some_getLast hne] at this
  simp only [Option.some.injEq] at this
  conv => lhs; rw [← List.dropLast_concat_getLast hne, this]

theorem lines_eq (s : List UInt8) (hs : s.length < 1000000) : stanza_Lines s = some (if (linesV s).1 = true then 0 else 2, (linesV s).2) := by
  unfold stanza_Lines linesV
  by_cases h : s = []
  · simp [h]
  · have hp : 0 < s.length := List.length_pos_iff.mpr h
    rw [hasSuffix_eq_L s (by omega)]
    by_cases he : endsSl_L s = true
    · have e : IntKind.wrap IntKind.i64 ((s.length : Int) - 1) = ((s.length - 1 : Nat) : Int) := by rw [w64 (by omega) (by omega)]; omega
      simp only [h, he, decide_false, cond_false, if_false, if_true, Option.bind_some, Bool.not_true, e, Int.toNat_natCast, dropLast_take]
      rw [if_pos (by omega)]
      unfold strings_Split
      have h0 : List.drop (Int.toNat (0 : Int)) s.dropLast = s.dropLast := rfl
      rw [h0, genSplit_eq_L _ (by rw [List.length_dropLast]; omega)]
      rfl
    · have hf : endsSl_L s = false := by simpa using he
      simp [h, hf]

theorem pieces_snoc : ∀ (t acc : List UInt8), pieces_L (t ++ [10]) acc = pieces_L t acc ++ [[]] := by
  intro t
  induction t with
  | nil => intro acc; simp [pieces_L]
  | cons c r ih =>
    intro acc
    simp only [List.cons_append, pieces_L]
    split
    · rw [ih]; simp
    · rw [ih]

theorem pieces_last : ∀ (t acc : List UInt8) (c : UInt8), c ≠ 10 → ∃ q x, pieces_L (t ++ [c]) acc = q ++ [x ++ [c]] := by
  intro t
  induction t with
  | nil => intro acc c hc; exact ⟨[], acc, by simp [pieces_L, hc]⟩
  | cons y r ih =>
    intro acc c hc
    simp only [List.cons_append, pieces_L]
    split
    · obtain ⟨q, x, h⟩ := ih [] c hc
      exact ⟨acc :: q, x, by rw [h]; simp⟩
    · exact ih _ c hc

theorem pieces_ne : ∀ (t acc : List UInt8), pieces_L t acc ≠ [] := by
  intro t
  induction t with
  | nil => intro acc; simp [pieces_L]
  | cons c r ih =>
    intro acc
    simp only [pieces_L]
    split
    · simp
    · exact ih _

theorem c1' : ((1 : Nat) : Int) = 1 := rfl

theorem linesV_len (s : List UInt8) : (linesV s).2.length ≤ s.length + 1 := by
  unfold linesV
  split
  · simp
  · split
    · have := pieces_L_len s.dropLast []
      rw [List.length_dropLast] at this
      simp only
      omega
    · simp

def joinL (l : List (List UInt8)) : List UInt8 := l.flatMap fun x => x ++ [10]

theorem pieces_join : ∀ (t acc : List UInt8), joinL (pieces_L t acc) = acc ++ t ++ [10] := by
  intro t
  induction t with
  | nil => intro acc; simp [pieces_L, joinL]
  | cons c r ih =>
    intro acc
    simp only [pieces_L]
    split
    · rename_i hc
      subst hc
      have := ih []
      simp only [joinL, List.flatMap_cons] at this ⊢
      rw [this]
      simp
    · rw [ih]; simp

theorem lines_join {s : List UInt8} (h : (linesV s).1 = true) : joinL (linesV s).2 = s := by
  unfold linesV at h ⊢
  by_cases h0 : s = []
  · subst h0; rfl
  · by_cases he : endsSl_L s = true
    · simp only [h0, he, if_false, if_true, pieces_join, List.nil_append]
      exact (dropLast_ends he).symm
    · simp [h0, he] at h

theorem pieces_small : ∀ (t acc : List UInt8) (n : Nat), acc.length + t.length ≤ n → ∀ x ∈ pieces_L t acc, x.length ≤ n := by
  intro t
  induction t with
  | nil => intro acc n h x hx; simp [pieces_L] at hx; subst hx; simpa using h
  | cons c r ih =>
    intro acc n h x hx
    simp only [List.length_cons] at h
    simp only [pieces_L] at hx
    split at hx
    · rcases List.mem_cons.mp hx with rfl | hx
      · omega
      · exact ih [] n (by simp; omega) x hx
    · exact ih _ n (by simp; omega) x hx

theorem plain_no10 {s : List UInt8} (h : rightV s = true) : ∀ c ∈ s, c ≠ 10 := by
  unfold rightV at h
  simp only [Bool.and_eq_true, decide_eq_true_eq] at h
  have hp : plainV s = true := by
    cases hq : plainV s with
    | true => rfl
    | false => rw [cleanV, if_neg (by rw [hq]; simp)] at h; cases h.1
  unfold plainV at hp
  simp only [Bool.and_eq_true, List.all_eq_true] at hp
  intro c hc e
  have := hp.1 c hc
  subst e
  revert this; decide

theorem allFrom_mem {α : Type} (p : Nat → α → Bool) (l : List α) (h : allFrom p 0 l = true) : ∀ c ∈ l, ∃ k, p k c = true := by
  intro c hc
  obtain ⟨i, hi⟩ := List.getElem?_of_mem hc
  exact ⟨_, (allFrom_iff p l 0).mp h i c hi⟩

theorem name_no {s : List UInt8} (h : nameV s = true) : (∀ c ∈ s, c ≠ 10) ∧ s ≠ [58] := by
  unfold nameV at h
  simp only [Bool.and_eq_true] at h
  refine ⟨fun c hc e => ?_, fun e => ?_⟩
  · obtain ⟨k, hk⟩ := allFrom_mem _ _ h.2 c hc
    subst e
    unfold nameAt at hk
    have h1 : isWord 10 = false := by decide
    have h2 : isMark 10 = false := by decide
    rw [h1, h2] at hk
    simp at hk
  · subst e
    revert h; decide

theorem pieces_one : ∀ (x q acc : List UInt8), (∀ c ∈ x, c ≠ 10) → pieces_L (x ++ 10 :: q) acc = (acc ++ x) :: pieces_L q [] := by
  intro x
  induction x with
  | nil => intro q acc _; simp [pieces_L]
  | cons c r ih =>
    intro q acc h
    have hc := h c (by simp)
    simp only [List.cons_append, pieces_L, hc, if_false]
    rw [ih q _ (fun y hy => h y (by simp [hy]))]
    simp

theorem pieces_of : ∀ (L : List (List UInt8)), (∀ x ∈ L, ∀ c ∈ x, c ≠ 10) → pieces_L (joinL L) [] = L ++ [[]] := by
  intro L
  induction L with
  | nil => intro _; rfl
  | cons x r ih =>
    intro h
    have e : joinL (x :: r) = x ++ 10 :: joinL r := by simp [joinL]
    rw [e, pieces_one x _ [] (h x (by simp)), ih (fun y hy => h y (by simp [hy]))]
    simp

theorem lines_of (L : List (List UInt8)) (h : ∀ x ∈ L, ∀ c ∈ x, c ≠ 10) : linesV (joinL L) = (true, L) := by
  have hp := pieces_of L h
  unfold linesV
  by_cases h0 : joinL L = []
  · rw [h0] at hp ⊢
    have : L = [] := by
      cases L with
      | nil => rfl
      | cons x r => simp [joinL] at h0
    subst this
    rfl
  · have hL : L ≠ [] := by rintro rfl; exact h0 rfl
    have he : endsSl_L (joinL L) = true := by
      have : joinL L = joinL L.dropLast ++ L.getLast hL ++ [10] := by
        conv => lhs; rw [← List.dropLast_concat_getLast hL]
        simp [joinL]
      unfold endsSl_L
      rw [this]
      simp
    have hd := dropLast_ends he
    rw [hd, pieces_snoc] at hp
    have hp' := List.append_cancel_right hp
    simp [h0, he, hp']

end Go.Cellar
