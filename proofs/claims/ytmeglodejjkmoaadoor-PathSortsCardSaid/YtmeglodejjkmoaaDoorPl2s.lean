/- Rising lists of texts. No condition. -/
import Derived.Test.YtmeglodejjkmoaaDoorPl0
import Derived.Sort.Walk0
set_option linter.unusedSimpArgs false
set_option linter.unusedVariables false
set_option maxRecDepth 4000
namespace Go.Cellar
open Go

abbrev Tx := List UInt8

theorem tx_irr (x : Tx) : ¬ x < x := List.lt_irrefl x
theorem tx_trans {x y z : Tx} (h : x < y) (h' : y < z) : x < z := List.lt_trans h h'
theorem tx_tri (x y : Tx) : x < y ∨ x = y ∨ y < x := by
  rcases List.le_total x y with h | h
  · rcases Classical.em (y < x) with h2 | h2
    · exact .inr (.inr h2)
    · rcases Classical.em (x < y) with h3 | h3
      · exact .inl h3
      · exact .inr (.inl (List.le_antisymm h2 h3))
  · rcases Classical.em (x < y) with h2 | h2
    · exact .inl h2
    · rcases Classical.em (y < x) with h3 | h3
      · exact .inr (.inr h3)
      · exact .inr (.inl (List.le_antisymm h3 h2))

/-- Rising, each once. -/
def Rise (l : List Tx) : Prop := l.Pairwise fun x y => x < y

/-- A rising list is known by what it holds. -/
theorem rise_unique : ∀ (a b : List Tx), Rise a → Rise b → (∀ x, x ∈ a ↔ x ∈ b) → a = b := by
  intro a
  induction a with
  | nil =>
    intro b _ _ h
    cases b with
    | nil => rfl
    | cons y b => exact absurd ((h y).mpr (by simp)) (by simp)
  | cons x a ih =>
    intro b ha hb h
    cases b with
    | nil => exact absurd ((h x).mp (by simp)) (by simp)
    | cons y b =>
      unfold Rise at ha hb
      rw [List.pairwise_cons] at ha hb
      have hxy : x = y := by
        rcases List.mem_cons.mp ((h x).mp (by simp)) with e | e
        · exact e
        · rcases List.mem_cons.mp ((h y).mpr (by simp)) with e' | e'
          · exact e'.symm
          · exact absurd (tx_trans (hb.1 x e) (ha.1 y e')) (tx_irr y)
      subst hxy
      rw [ih b ha.2 hb.2 fun z => ?_]
      have hz := h z
      simp only [List.mem_cons] at hz
      constructor
      · intro hm
        rcases hz.mp (.inr hm) with rfl | e
        · exact absurd (ha.1 _ hm) (tx_irr _)
        · exact e
      · intro hm
        rcases hz.mpr (.inr hm) with rfl | e
        · exact absurd (hb.1 _ hm) (tx_irr _)
        · exact e

/-! ### the least that is not there yet, again and again -/

/-- The least of what is not there yet, among the first i. -/
def Least (l out : List Tx) (i : Nat) (a : Int) : Prop :=
  (a = -1 ∧ ∀ j (h : j < l.length), j < i → l[j] ∈ out) ∨
  ∃ (m : Nat) (hm : m < l.length), a = (m : Int) ∧ m < i ∧ l[m] ∉ out ∧ ∀ j (h : j < l.length), j < i → l[j] ∉ out → ¬ l[j] < l[m]

/-- How far 'out' has come. -/
def Gone (l out : List Tx) : Prop := Rise out ∧ (∀ x ∈ out, x ∈ l) ∧ ∀ x ∈ l, x ∉ out → ∀ y ∈ out, y < x

theorem gone_more {l out : List Tx} (h : Gone l out) {m : Nat} (hm : m < l.length) (h1 : l[m] ∉ out) (h2 : ∀ j (h : j < l.length), l[j] ∉ out → ¬ l[j] < l[m]) : Gone l (out ++ [l[m]]) := by
  obtain ⟨g1, g2, g3⟩ := h
  refine ⟨?_, ?_, ?_⟩
  · unfold Rise at g1 ⊢
    rw [List.pairwise_append]
    refine ⟨g1, by simp, fun x hx y hy => ?_⟩
    simp only [List.mem_singleton] at hy
    subst hy
    exact g3 _ (List.getElem_mem hm) h1 x hx
  · intro x hx
    rcases List.mem_append.mp hx with hx | hx
    · exact g2 x hx
    · simp only [List.mem_singleton] at hx
      subst hx
      exact List.getElem_mem hm
  · intro x hx hn y hy
    simp only [List.mem_append, List.mem_singleton, not_or] at hn
    rcases List.mem_append.mp hy with hy | hy
    · exact g3 x hx hn.1 y hy
    · simp only [List.mem_singleton] at hy
      subst hy
      obtain ⟨j, hj, rfl⟩ := List.getElem_of_mem hx
      rcases tx_tri l[m] l[j] with h | h | h
      · exact h
      · exact absurd h.symm hn.2
      · exact absurd h (h2 j hj hn.1)

theorem nodup_len {out l : List Tx} (h : Rise out) (hs : ∀ x ∈ out, x ∈ l) : out.length ≤ l.length := by
  induction out generalizing l with
  | nil => simp
  | cons x out ih =>
    unfold Rise at h
    rw [List.pairwise_cons] at h
    have hx := hs x (by simp)
    have := ih (l := l.erase x) h.2 fun y hy => by
      have hy2 := hs y (by simp [hy])
      have hne : y ≠ x := fun e => by
        have := h.1 y hy
        rw [e] at this
        exact tx_irr x this
      exact (List.mem_erase_of_ne hne).mpr hy2
    rw [List.length_erase_of_mem hx] at this
    have hl : 0 < l.length := List.length_pos_of_mem hx
    simp
    omega

/-! ### sorted, then each once -/

def sortT (l : List Tx) : List Tx := l.mergeSort fun x y => decide (x ≤ y)

theorem sortT_le (l : List Tx) : (sortT l).Pairwise fun x y => ¬ y < x := by
  have := List.pairwise_mergeSort (le := fun (x y : Tx) => decide (x ≤ y)) (fun a b c h1 h2 => by
      simp only [decide_eq_true_eq] at h1 h2 ⊢
      exact List.le_trans h1 h2) (fun a b => by
      simp only [Bool.or_eq_true, decide_eq_true_eq]
      exact List.le_total a b) l
  refine this.imp fun h => ?_
  simpa using h

theorem sortT_mem (l : List Tx) (x : Tx) : x ∈ sortT l ↔ x ∈ l := (List.mergeSort_perm l _).mem_iff

theorem sortT_len (l : List Tx) : (sortT l).length = l.length := List.length_mergeSort l

theorem sortT_rise {l : List Tx} (h : Rise l) : sortT l = l := by
  unfold sortT
  refine List.mergeSort_of_pairwise (List.Pairwise.imp (fun {a b} hab => ?_) h)
  simp only [decide_eq_true_eq]
  exact List.le_of_lt hab

/-- What follows x, each once. -/
def uniqF : Tx → List Tx → List Tx
  | _, [] => []
  | x, y :: r => if y = x then uniqF x r else y :: uniqF y r

def uniqV : List Tx → List Tx
  | [] => []
  | x :: r => x :: uniqF x r

theorem uniqF_mem : ∀ (r : List Tx) (x z : Tx), z ∈ x :: uniqF x r ↔ z ∈ x :: r := by
  intro r
  induction r with
  | nil => intro x z; simp [uniqF]
  | cons y r ih =>
    intro x z
    unfold uniqF
    by_cases h : y = x
    · rw [if_pos h, ih x z, h]; simp
    · rw [if_neg h]
      have := ih y z
      simp only [List.mem_cons] at this ⊢
      rw [this]

theorem uniqF_rise : ∀ (r : List Tx) (x : Tx), (x :: r).Pairwise (fun x y => ¬ y < x) → Rise (x :: uniqF x r) := by
  intro r
  induction r with
  | nil => intro x _; simp [uniqF, Rise]
  | cons y r ih =>
    intro x h
    rw [List.pairwise_cons] at h
    unfold uniqF
    by_cases hy : y = x
    · rw [if_pos hy]
      refine ih x ?_
      rw [← hy]; exact h.2
    · rw [if_neg hy]
      have h2 := ih y h.2
      have hxy : x < y := by
        rcases tx_tri x y with e | e | e
        · exact e
        · exact absurd e.symm hy
        · exact absurd e (h.1 y (by simp))
      unfold Rise at h2 ⊢
      rw [List.pairwise_cons]
      refine ⟨fun z hz => ?_, h2⟩
      rcases List.mem_cons.mp hz with rfl | hz
      · exact hxy
      · rw [List.pairwise_cons] at h2
        exact tx_trans hxy (h2.1 z hz)

theorem uniqV_rise (l : List Tx) (h : l.Pairwise fun x y => ¬ y < x) : Rise (uniqV l) := by
  cases l with
  | nil => simp [uniqV, Rise]
  | cons x r => exact uniqF_rise r x h

theorem uniqV_mem (l : List Tx) (x : Tx) : x ∈ uniqV l ↔ x ∈ l := by
  cases l with
  | nil => simp [uniqV]
  | cons y r => exact uniqF_mem r y x

theorem uniqF_of_rise : ∀ (r : List Tx) (x : Tx), Rise (x :: r) → uniqF x r = r := by
  intro r
  induction r with
  | nil => intro x _; rfl
  | cons y r ih =>
    intro x h
    unfold Rise at h
    rw [List.pairwise_cons] at h
    unfold uniqF
    have : ¬ y = x := fun e => by
      have := h.1 y (by simp)
      rw [e] at this
      exact tx_irr x this
    rw [if_neg this, ih y h.2]

/-- Sorted, each once. -/
def sortedV (l : List Tx) : List Tx := uniqV (sortT l)

theorem sortedV_rise (l : List Tx) : Rise (sortedV l) := uniqV_rise _ (sortT_le l)
theorem sortedV_mem (l : List Tx) (x : Tx) : x ∈ sortedV l ↔ x ∈ l := (uniqV_mem _ x).trans (sortT_mem l x)
theorem sortedV_len (l : List Tx) : (sortedV l).length ≤ l.length := nodup_len (sortedV_rise l) fun x hx => (sortedV_mem l x).mp hx
theorem sortedV_of_rise {l : List Tx} (h : Rise l) : sortedV l = l := rise_unique _ _ (sortedV_rise l) h (sortedV_mem l)

theorem gone_end {l out : List Tx} (h : Gone l out) (he : ∀ x ∈ l, x ∈ out) : out = sortedV l :=
  rise_unique _ _ h.1 (sortedV_rise l) fun x => ⟨fun hx => (sortedV_mem l x).mpr (h.2.1 x hx), fun hx => he x ((sortedV_mem l x).mp hx)⟩

end Go.Cellar
