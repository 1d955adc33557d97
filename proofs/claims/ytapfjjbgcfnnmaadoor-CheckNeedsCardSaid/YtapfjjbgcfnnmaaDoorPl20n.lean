/- What is there, what lacks, who is against whom. No condition. -/
import Derived.Test.YtapfjjbgcfnnmaaDoorPl20m
set_option linter.unusedSimpArgs false
set_option linter.unusedVariables false
set_option maxRecDepth 8000
set_option synthInstance.maxHeartbeats 2000000
set_option synthInstance.maxSize 9223372036854775807
namespace Go.Cellar
open Go

abbrev Rec := List UInt8 × List UInt8 × Int × List (List Rl) × List Rl × List (List UInt8) × List (List UInt8 × List UInt8) × List (List UInt8) × List (List UInt8)

theorem awake20 : cellarerlaw20_awake = some true := by kernel_rfl

/-- A loop that picks place by place. -/
theorem pick_loop {α β : Type} (B : Int × List β → Option ((Int × List β) ⊕ List β)) (p : α → Bool) (f : α → β) (l : List α)
    (hend : ∀ (k : Nat) (out : List β), l.length ≤ k → B ((k : Int), out) = some (.inr out))
    (hgo : ∀ (k : Nat) (c : α) (r : List α) (out : List β), l.drop k = c :: r → out.length ≤ k → B ((k : Int), out) = some (.inl (((k + 1 : Nat) : Int), if p c = true then out ++ [f c] else out))) :
    ∀ (r : List α) (k : Nat) (out : List β), l.drop k = r → out.length ≤ k → iter B ((k : Int), out) = some (out ++ (r.filter p).map f) := by
  intro r
  induction r with
  | nil =>
    intro k out h ho
    rw [iter_inr (hend k out (drop_nil h))]
    simp
  | cons c r ih =>
    intro k out h ho
    rw [iter_inl (hgo k c r out h ho)]
    by_cases hp : p c = true
    · rw [if_pos hp, ih (k + 1) _ (drop_cons h c).2.2 (by simp; omega), List.filter_cons_of_pos hp]
      simp
    · rw [if_neg hp, ih (k + 1) _ (drop_cons h c).2.2 (by omega), List.filter_cons_of_neg hp]

abbrev z9 : Rec := ([], [], (0 : Int), [], [], [], [], [], [])

def thereP (x : Rec) : Bool := decide (x.2.2.1 = 7) || decide (x.2.2.1 = 6)
def thereV (l : List Rec) : List Rl := (l.filter thereP).map fun x => (x.1, [], x.2.1)

theorem there_eq (l : List Rec) (hl : l.length < 1000000) : check_There l = some (thereV l) := by
  unfold check_There
  have := pick_loop (check_There_b0 l ((l.length : Nat) : Int)) thereP (fun x => ((x.1, [], x.2.1) : Rl)) l (fun k out hk => by
    unfold check_There_b0
    simp [show ¬ k < l.length by omega]) (fun k x r out h ho => by
    obtain ⟨g1, g2, g3⟩ := drop_cons h z9
    unfold check_There_b0 thereP
    simp only [natlt, g1, decide_true, cond_true, Int.natCast_nonneg, true_and, if_true, Int.toNat_natCast, g2, kplus g1 (by omega)]
    have hb : (out.length + ([((x.1, [], x.2.1) : Rl)] : List Rl).length) * 48 ≤ 17592186044416 := by simp; omega
    by_cases h7 : x.2.2.1 = 7
    · rw [decide_eq_true h7, if_pos hb]; rfl
    · rw [decide_eq_false h7]
      by_cases h6 : x.2.2.1 = 6
      · rw [decide_eq_true h6, if_pos hb]; rfl
      · rw [decide_eq_false h6]; rfl) l 0 [] rfl (by simp)
  have h2 : iter (check_There_b0 l ((l.length : Nat) : Int)) ((0 : Int), []) = some ([] ++ (l.filter thereP).map fun x => ((x.1, [], x.2.1) : Rl)) := this
  rw [h2]
  rfl

theorem refThere_eq (l : List Rec) (hl : l.length < 1000000) : cellarerref20_There l = some (thereV l) := by
  unfold cellarerref20_There
  have := pick_loop (cellarerref20_There_b0 l) thereP (fun x => ((x.1, [], x.2.1) : Rl)) l (fun k out hk => by
    unfold cellarerref20_There_b0
    simp [show ¬ k < l.length by omega]) (fun k x r out h ho => by
    obtain ⟨g1, g2, g3⟩ := drop_cons h z9
    unfold cellarerref20_There_b0 thereP
    simp only [natlt, g1, decide_true, cond_true, Int.natCast_nonneg, true_and, if_true, Int.toNat_natCast, g2, kplus g1 (by omega)]
    have hb : (out.length + ([((x.1, [], x.2.1) : Rl)] : List Rl).length) * 48 ≤ 17592186044416 := by simp; omega
    by_cases h7 : x.2.2.1 = 7
    · rw [decide_eq_true h7, if_pos hb]; rfl
    · rw [decide_eq_false h7]
      by_cases h6 : x.2.2.1 = 6
      · rw [decide_eq_true h6, if_pos hb]; rfl
      · rw [decide_eq_false h6]; rfl) l 0 [] rfl (by simp)
  have h2 : iter (cellarerref20_There_b0 l) ((0 : Int), []) = some ([] ++ (l.filter thereP).map fun x => ((x.1, [], x.2.1) : Rl)) := this
  rw [h2]
  rfl

/-- Records small enough. -/
def SmR (x : Rec) : Prop := x.2.1.length ≤ 9223372036854775807 ∧ x.2.2.2.1.length < 1000000 ∧ (∀ g ∈ x.2.2.2.1, SmG g) ∧ SmG x.2.2.2.2.1

theorem there_sm {l : List Rec} (hl : l.length < 1000000) (h : ∀ x ∈ l, SmR x) : SmG (thereV l) := by
  unfold thereV
  refine ⟨?_, fun y hy => ?_⟩
  · rw [List.length_map]
    exact Nat.lt_of_le_of_lt (List.length_filter_le _ _) hl
  · rw [List.mem_map] at hy
    obtain ⟨x, hx, rfl⟩ := hy
    rw [List.mem_filter] at hx
    exact (h x hx.1).1

def missV (l : List Rec) (g : List (List Rl)) : List Int := lacksFrom (thereV l) 0 g

theorem missing_eq (l : List Rec) (a b c d e f) (g : List (List Rl)) (hl : l.length < 1000000) (h : ∀ x ∈ l, SmR x) (hg : g.length < 1000000) (hgs : ∀ y ∈ g, SmG y) : check_Missing l a b c d e f g = some (missV l g) := by
  unfold check_Missing missV
  rw [there_eq l hl]
  simp only [Option.bind_some, List.drop_zero]
  rw [lacks_eq g _ hg hgs (there_sm hl h)]
  rfl

theorem refMissing_eq (l : List Rec) (a b c d e f) (g : List (List Rl)) (hl : l.length < 1000000) (h : ∀ x ∈ l, SmR x) (hg : g.length < 1000000) (hgs : ∀ y ∈ g, SmG y) : cellarerref20_Missing l a b c d e f g = some (missV l g) := by
  unfold cellarerref20_Missing missV
  rw [refThere_eq l hl]
  simp only [Option.bind_some, List.drop_zero]
  rw [refLacks_eq g _ hg hgs (there_sm hl h)]
  rfl

end Go.Cellar
