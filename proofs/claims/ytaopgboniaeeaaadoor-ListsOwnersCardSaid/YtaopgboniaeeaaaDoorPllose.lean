/- Lists of which some lose some paths: by plain lists. No condition. -/
import Derived.Test.YtaopgboniaeeaaaDoorPlput
set_option linter.unusedSimpArgs false
set_option linter.unusedVariables false
namespace Go.Cellar
open Go

abbrev Ls := List UInt8 × List (List UInt8)

def keyL (n : List UInt8) (x : Ls) : Bool := decide (x.1 = n)
def minusV (l o : List (List UInt8)) : List (List UInt8) := l.filter fun p => !decide (p ∈ o)
def loseV (l : List Ls) (n : List UInt8) (ps : List (List UInt8)) : List Ls :=
  match firstG (keyL n) l 0 with
  | none => l
  | some i => l.set i ((l.getD i ([], [])).1, minusV (l.getD i ([], [])).2 ps)

theorem lose_names (l : List Ls) (n : List UInt8) (ps : List (List UInt8)) : (loseV l n ps).map (·.1) = l.map (·.1) := by
  unfold loseV
  split
  · rfl
  · rename_i i h
    have hi := firstG_lt _ l i h
    rw [List.map_set]
    apply List.ext_getElem?
    intro j
    rw [List.getElem?_set]
    by_cases hj : i = j
    · subst hj
      simp [hi, List.getD_eq_getElem?_getD]
    · simp [hj]

theorem lose_mem (l : List Ls) (n : List UInt8) (ps : List (List UInt8)) (hn : (l.map (·.1)).Nodup) : ∀ y ∈ loseV l n ps, ∃ x ∈ l, y.1 = x.1 ∧ (∀ p ∈ y.2, p ∈ x.2) ∧ (n = y.1 → ∀ p ∈ y.2, p ∉ ps) := by
  intro y hy
  unfold loseV at hy
  split at hy
  · rename_i h
    refine ⟨y, hy, rfl, fun p hp => hp, fun e => ?_⟩
    have := firstG_none _ l 0 h y hy
    unfold keyL at this
    simp at this
    exact absurd e.symm this
  · rename_i i h
    obtain ⟨z, h1, h2, h3⟩ := firstG_at _ l i h
    have hi := firstG_lt _ l i h
    have hz : l.getD i ([], []) = z := by rw [List.getD_eq_getElem?_getD, h1]; rfl
    rw [hz] at hy
    have hzn : z.1 = n := by unfold keyL at h2; simpa using h2
    obtain ⟨j, hj⟩ := List.getElem?_of_mem hy
    rw [List.getElem?_set] at hj
    by_cases hij : i = j
    · subst hij
      simp only [if_true, hi] at hj
      simp only [Option.some.injEq] at hj
      subst hj
      refine ⟨z, List.mem_of_getElem? h1, rfl, fun p hp => (List.mem_filter.mp hp).1, fun _ p hp hps => ?_⟩
      have := (List.mem_filter.mp hp).2
      simp [hps] at this
    · rw [if_neg hij] at hj
      refine ⟨y, List.mem_of_getElem? hj, rfl, fun p hp => hp, fun e => ?_⟩
      exfalso
      refine hij ((List.getElem?_inj (by simpa using hi) hn).mp ?_)
      rw [List.getElem?_map, List.getElem?_map, h1, hj]
      simp [hzn, e]

theorem lose_all : ∀ (lost l : List Ls), (l.map (·.1)).Nodup → ∀ y ∈ lost.foldl (fun l d => loseV l d.1 d.2) l, ∃ x ∈ l, y.1 = x.1 ∧ (∀ p ∈ y.2, p ∈ x.2) ∧ ∀ d ∈ lost, d.1 = y.1 → ∀ p ∈ y.2, p ∉ d.2
  | [], l, _, y, hy => ⟨y, hy, rfl, fun p hp => hp, fun d hd => by cases hd⟩
  | d :: lost, l, hn, y, hy => by
    rw [List.foldl_cons] at hy
    obtain ⟨x1, h1, h2, h3, h4⟩ := lose_all lost (loseV l d.1 d.2) (by rw [lose_names]; exact hn) y hy
    obtain ⟨x, g1, g2, g3, g4⟩ := lose_mem l d.1 d.2 hn x1 h1
    refine ⟨x, g1, h2.trans g2, fun p hp => g3 p (h3 p hp), fun e he hey p hp => ?_⟩
    rcases List.mem_cons.mp he with rfl | he
    · exact g4 (hey.trans h2) p (h3 p hp)
    · exact h4 e he hey p hp

theorem lose_len (l : List Ls) (n : List UInt8) (ps : List (List UInt8)) : (loseV l n ps).length = l.length := by
  have := congrArg List.length (lose_names l n ps)
  simpa using this

end Go.Cellar
