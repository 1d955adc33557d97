/- A list with one more at its place, or another one of its key: by plain lists. No condition. -/
import Derived.Test.YtjdjmbogopadaaaGreatDoorPl0
import Derived.Test.YtjdjmbogopadaaaGreatDoorAbs29
set_option linter.unusedSimpArgs false
set_option linter.unusedVariables false
namespace Go.Cellar
open Go

/-- The first place (counted from k) of one that fits. -/
def firstG {α : Type} (q : α → Bool) : List α → Nat → Option Nat
  | [], _ => none
  | x :: r, k => if q x = true then some k else firstG q r (k + 1)

def idxG : Option Nat → Int
  | some k => k
  | none => -1

theorem firstG_shift {α : Type} (q : α → Bool) : ∀ (l : List α) (k : Nat), firstG q l k = (firstG q l 0).map (· + k)
  | [], _ => rfl
  | x :: r, k => by
    unfold firstG
    split
    · simp
    · rw [firstG_shift q r (k + 1), firstG_shift q r (0 + 1)]
      cases firstG q r 0 with
      | none => rfl
      | some i => simp only [Option.map_some, Option.some.injEq]; omega

theorem firstG_at {α : Type} (q : α → Bool) : ∀ (l : List α) (i : Nat), firstG q l 0 = some i → ∃ x, l[i]? = some x ∧ q x = true ∧ ∀ y ∈ l.take i, q y = false
  | [], _, h => by cases h
  | x :: r, i, h => by
    unfold firstG at h
    split at h
    · rename_i hx
      simp only [Option.some.injEq] at h
      subst h
      exact ⟨x, rfl, hx, by simp⟩
    · rename_i hx
      rw [firstG_shift] at h
      cases hf : firstG q r 0 with
      | none => rw [hf] at h; cases h
      | some j =>
        rw [hf] at h
        simp only [Option.map_some, Option.some.injEq] at h
        subst h
        obtain ⟨y, h1, h2, h3⟩ := firstG_at q r j hf
        refine ⟨y, by simpa using h1, h2, ?_⟩
        intro z hz
        rw [show 0 + 1 = 1 from rfl, List.take_succ_cons, List.mem_cons] at hz
        rcases hz with rfl | hz
        · simpa using hx
        · exact h3 z hz

theorem firstG_no {α : Type} (q : α → Bool) : ∀ (l : List α) (k : Nat), (∀ y ∈ l, q y = false) → firstG q l k = none
  | [], _, _ => rfl
  | x :: r, k, h => by
    unfold firstG
    rw [if_neg (by rw [h x (by simp)]; simp)]
    exact firstG_no q r (k + 1) fun y hy => h y (by simp [hy])

theorem firstG_none {α : Type} (q : α → Bool) : ∀ (l : List α) (k : Nat), firstG q l k = none → ∀ y ∈ l, q y = false
  | [], _, _ => by simp
  | x :: r, k, h => by
    unfold firstG at h
    split at h
    · cases h
    · rename_i hx
      intro y hy
      rcases List.mem_cons.mp hy with rfl | hy
      · simpa using hx
      · exact firstG_none q r (k + 1) h y hy

theorem firstG_app {α : Type} (q : α → Bool) (x : α) (r : List α) (hx : q x = true) : ∀ (l : List α) (k : Nat), (∀ y ∈ l, q y = false) → firstG q (l ++ x :: r) k = some (k + l.length)
  | [], k, _ => by simp [firstG, hx]
  | y :: l, k, h => by
    rw [List.cons_append]
    unfold firstG
    rw [if_neg (by rw [h y (by simp)]; simp), firstG_app q x r hx l (k + 1) fun z hz => h z (by simp [hz])]
    simp only [List.length_cons, Option.some.injEq]
    omega

theorem firstG_lt {α : Type} (q : α → Bool) (l : List α) (i : Nat) (h : firstG q l 0 = some i) : i < l.length := by
  obtain ⟨x, h1, _, _⟩ := firstG_at q l i h
  exact (List.getElem?_eq_some_iff.mp h1).1

/-- What is put. -/
def putG {α : Type} (q gt : α → Bool) (x : α) (l : List α) : List α :=
  match firstG q l 0 with
  | some i => l.set i x
  | none => insOne l ((firstG gt l 0).getD l.length) x

theorem gt_le {α : Type} (gt : α → Bool) (l : List α) : (firstG gt l 0).getD l.length ≤ l.length := by
  cases h : firstG gt l 0 with
  | none => exact Nat.le_refl _
  | some i => exact Nat.le_of_lt (firstG_lt gt l i h)

theorem putG_split {α : Type} (q gt : α → Bool) (x : α) (l : List α) : ∃ i r, putG q gt x l = l.take i ++ x :: r ∧ i ≤ l.length ∧ ∀ y ∈ l.take i, q y = false := by
  unfold putG
  cases h : firstG q l 0 with
  | none =>
    exact ⟨_, l.drop ((firstG gt l 0).getD l.length), rfl, gt_le gt l, fun y hy => firstG_none q l 0 h y (List.mem_of_mem_take hy)⟩
  | some i =>
    obtain ⟨z, h1, h2, h3⟩ := firstG_at q l i h
    have hi := firstG_lt q l i h
    refine ⟨i, l.drop (i + 1), ?_, by omega, h3⟩
    dsimp only
    rw [List.set_eq_take_append_cons_drop, if_pos hi]

theorem putG_len {α : Type} (q gt : α → Bool) (x : α) (l : List α) : (putG q gt x l).length ≤ l.length + 1 := by
  unfold putG
  split
  · simp
  · have := gt_le gt l
    simp only [insOne, List.length_append, List.length_take, List.length_cons, List.length_drop]
    omega

/-- What was put is found, where it is. -/
theorem putG_found {α : Type} (q gt : α → Bool) (x : α) (hx : q x = true) (l : List α) : ∃ i, firstG q (putG q gt x l) 0 = some i ∧ (putG q gt x l)[i]? = some x := by
  obtain ⟨i, r, h1, h2, h3⟩ := putG_split q gt x l
  refine ⟨i, ?_, ?_⟩
  · rw [h1, firstG_app q x r hx _ 0 h3]
    simp [Nat.min_eq_left h2]
  · rw [h1, List.getElem?_append_right (by simp; omega)]
    simp [Nat.min_eq_left h2]

theorem dropG_none {α : Type} (q : α → Bool) (l : List α) : firstG q (l.filter fun y => !q y) 0 = none :=
  firstG_no q _ 0 fun y hy => by
    have := (List.mem_filter.mp hy).2
    simpa using this

/-- The document's way: element by element. -/
def goP {α : Type} (gt : α → Bool) (x : α) (old : Int) : List α → Nat → Bool → List α
  | [], _, p => if p then [] else [x]
  | y :: r, k, p => (if !p && gt y then [x] else []) ++ (if (k : Int) = old then x else y) :: goP gt x old r (k + 1) (p || gt y)

theorem goP_past {α : Type} (gt : α → Bool) (x : α) (old : Int) : ∀ (r : List α) (k : Nat), old < k → goP gt x old r k true = r
  | [], _, _ => rfl
  | y :: r, k, h => by
    unfold goP
    rw [if_neg (show ¬ (k : Int) = old by omega)]
    simp only [Bool.not_true, Bool.false_and, Bool.false_eq_true, if_false, List.nil_append, Bool.true_or]
    rw [goP_past gt x old r (k + 1) (by omega)]

theorem goP_old {α : Type} (gt : α → Bool) (x : α) (i : Nat) : ∀ (r : List α) (k : Nat), k ≤ i → goP gt x (i : Int) r k true = r.set (i - k) x
  | [], _, _ => rfl
  | y :: r, k, h => by
    unfold goP
    simp only [Bool.not_true, Bool.false_and, Bool.false_eq_true, if_false, List.nil_append, Bool.true_or]
    by_cases hk : k = i
    · subst hk
      rw [if_pos rfl, goP_past gt x _ r (k + 1) (by omega)]
      simp
    · rw [if_neg (by omega), goP_old gt x i r (k + 1) (by omega), show i - k = (i - (k + 1)) + 1 by omega]
      rfl

theorem goP_new {α : Type} (gt : α → Bool) (x : α) (old : Int) (ho : old < 0) : ∀ (r : List α) (k : Nat), goP gt x old r k false = insOne r ((firstG gt r 0).getD r.length) x
  | [], _ => rfl
  | y :: r, k => by
    unfold goP
    rw [if_neg (show ¬ (k : Int) = old by omega)]
    cases hy : gt y with
    | true =>
      simp only [Bool.not_false, Bool.true_and, if_true, Bool.or_true]
      rw [goP_past gt x old r (k + 1) (by omega)]
      simp [firstG, hy, insOne]
    | false =>
      simp only [Bool.not_false, Bool.true_and, Bool.false_eq_true, if_false, List.nil_append, Bool.or_false]
      rw [goP_new gt x old ho r (k + 1)]
      have e : firstG gt (y :: r) 0 = (firstG gt r 0).map (· + 1) := by
        conv => lhs; unfold firstG
        rw [hy, if_neg (by simp), firstG_shift]
      rw [e]
      cases firstG gt r 0 with
      | none => simp [insOne]
      | some j => simp [insOne]

theorem goP_eq {α : Type} (q gt : α → Bool) (x : α) (l : List α) : goP gt x (idxG (firstG q l 0)) l 0 (decide (0 ≤ idxG (firstG q l 0))) = putG q gt x l := by
  unfold putG
  cases h : firstG q l 0 with
  | none => exact goP_new gt x (-1) (by omega) l 0
  | some i =>
    have := goP_old gt x i l 0 (Nat.zero_le _)
    simpa [idxG] using this

theorem idxG_some {o : Option Nat} (h : 0 ≤ idxG o) : ∃ i, o = some i ∧ (idxG o).toNat = i := by
  cases o with
  | none => simp [idxG] at h
  | some i => exact ⟨i, rfl, by simp [idxG]⟩

end Go.Cellar
