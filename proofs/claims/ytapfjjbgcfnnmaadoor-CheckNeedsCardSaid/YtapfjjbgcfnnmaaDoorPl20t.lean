/- Records small enough: always answered, and what follows. No condition. -/
import Derived.Test.YtapfjjbgcfnnmaaDoorPl20s
set_option linter.unusedSimpArgs false
set_option linter.unusedVariables false
set_option maxRecDepth 8000
set_option synthInstance.maxHeartbeats 2000000
set_option synthInstance.maxSize 100000
namespace Go.Cellar
open Go

theorem st1 {α β : Type} (L : List α) (k : Nat) (X Y : Option β) : (bif Decidable.decide ((k : Int) < (↑(List.length L) : Int)) then (if (0 : Int) ≤ (k : Int) ∧ (k : Int) < (↑(List.length L) : Int) then X else none) else Y) = if k < L.length then X else Y := by
  by_cases h : k < L.length
  · rw [decide_eq_true (by omega), if_pos (by omega), if_pos h]; rfl
  · rw [decide_eq_false (by omega), if_neg h]; rfl

theorem nest {β : Type} (P : Prop) [Decidable P] (X : Option β) : (if P then (if P then X else none) else none) = if P then X else none := by
  by_cases h : P <;> simp [h]

theorem mc4 (n : Nat) : (if (4000 : Int) < (n : Int) then (4000 : Int) else (n : Int)) = ((min n 4000 : Nat) : Int) := min_cap 4000 n

theorem stg2 (k n s a b : Nat) (hs : s + a + b < 1000000000) : (if k < n then some (IntKind.wrap IntKind.i64 ((s : Int) + IntKind.wrap IntKind.i64 ((a : Int) + (b : Int)))) else some (s : Int)) = some ((s + (if k < n then a + b else 0) : Nat) : Int) := by
  by_cases h : k < n
  · rw [if_pos h, if_pos h, w64 (n := (a : Int) + (b : Int)) (by omega) (by omega), w64 (by omega) (by omega)]
    congr 1
  · rw [if_neg h, if_neg h]; rfl

theorem stg1 (k n s a : Nat) (hs : s + a < 1000000000) : (if k < n then some (IntKind.wrap IntKind.i64 ((s : Int) + (a : Int))) else some (s : Int)) = some ((s + (if k < n then a else 0) : Nat) : Int) := by
  by_cases h : k < n
  · rw [if_pos h, if_pos h, w64 (by omega) (by omega)]
    congr 1
  · rw [if_neg h, if_neg h]; rfl

theorem getD_at {α : Type} (L : List α) (k : Nat) (d : α) (h : k < L.length) : L.getD k d = L[k] := by
  rw [List.getD_eq_getElem?_getD, List.getElem?_eq_getElem h]; rfl

section
variable (dep : List (List Rl)) (conf : List Rl) (rep : List (List UInt8)) (cfs : List (List UInt8 × List UInt8)) (pen awa : List (List UInt8))

def add8 (k : Nat) : Nat :=
  (if k < conf.length then min (conf.getD k ([], [], [])).1.length 4000 + min (conf.getD k ([], [], [])).2.2.length 4000 else 0) +
  (if k < rep.length then min (rep.getD k []).length 4000 else 0) +
  (if k < cfs.length then min (cfs.getD k ([], [])).1.length 4000 + min (cfs.getD k ([], [])).2.length 4000 else 0) +
  (if k < pen.length then min (pen.getD k []).length 4000 else 0) +
  (if k < awa.length then min (awa.getD k []).length 4000 else 0)

theorem few8_body (s k : Nat) (hs : s ≤ 30000) (hk : k < 70) : cellarerlaw08_Few_b0 dep conf rep cfs pen awa ((s : Int), (k : Int)) =
    some (if k < dep.length ∧ 70 < (dep.getD k []).length then .inr (.inl ()) else if 4000 < s + add8 conf rep cfs pen awa k then .inr (.inl ()) else .inl (((s + add8 conf rep cfs pen awa k : Nat) : Int), ((k + 1 : Nat) : Int))) := by
  unfold cellarerlaw08_Few_b0
  simp only [Prod.snd, Prod.fst, Int.toNat_natCast]
  rw [decide_eq_true (show (k : Int) < 70 by omega)]
  simp only [cond_true, nest, st1, mc4]
  by_cases hd : k < dep.length ∧ 70 < (dep.getD k []).length
  · rw [if_pos hd, if_pos hd.1, decide_eq_true (show (70 : Int) < ((dep.getD k []).length : Int) by omega)]
    rfl
  · rw [if_neg hd]
    have h0 : (if k < dep.length then (bif decide ((70 : Int) < ((dep.getD k []).length : Int)) then some (Sum.inl ()) else some (Sum.inr ())) else some (Sum.inr ())) = some (Sum.inr () : Unit ⊕ Unit) := by
      by_cases h1 : k < dep.length
      · rw [if_pos h1, decide_eq_false (show ¬ (70 : Int) < ((dep.getD k []).length : Int) by omega)]; rfl
      · rw [if_neg h1]
    rw [h0]
    simp only [Option.bind_some, Sum.elim_inr]
    have b1 : min (conf.getD k ([], [], [])).1.length 4000 ≤ 4000 := Nat.min_le_right _ _
    have b2 : min (conf.getD k ([], [], [])).2.2.length 4000 ≤ 4000 := Nat.min_le_right _ _
    have b3 : min (rep.getD k []).length 4000 ≤ 4000 := Nat.min_le_right _ _
    have b4 : min (cfs.getD k ([], [])).1.length 4000 ≤ 4000 := Nat.min_le_right _ _
    have b5 : min (cfs.getD k ([], [])).2.length 4000 ≤ 4000 := Nat.min_le_right _ _
    have b6 : min (pen.getD k []).length 4000 ≤ 4000 := Nat.min_le_right _ _
    have b7 : min (awa.getD k []).length 4000 ≤ 4000 := Nat.min_le_right _ _
    rw [stg2 k conf.length s _ _ (by omega)]
    simp only [Option.bind_some]
    have c1 : (if k < conf.length then min (conf.getD k ([], [], [])).1.length 4000 + min (conf.getD k ([], [], [])).2.2.length 4000 else 0) ≤ 8000 := by split <;> omega
    generalize hc1 : (if k < conf.length then min (conf.getD k ([], [], [])).1.length 4000 + min (conf.getD k ([], [], [])).2.2.length 4000 else 0) = n1 at *
    rw [stg1 k rep.length (s + n1) _ (by omega)]
    simp only [Option.bind_some]
    have c2 : (if k < rep.length then min (rep.getD k []).length 4000 else 0) ≤ 4000 := by split <;> omega
    generalize hc2 : (if k < rep.length then min (rep.getD k []).length 4000 else 0) = n2 at *
    rw [stg2 k cfs.length (s + n1 + n2) _ _ (by omega)]
    simp only [Option.bind_some]
    have c3 : (if k < cfs.length then min (cfs.getD k ([], [])).1.length 4000 + min (cfs.getD k ([], [])).2.length 4000 else 0) ≤ 8000 := by split <;> omega
    generalize hc3 : (if k < cfs.length then min (cfs.getD k ([], [])).1.length 4000 + min (cfs.getD k ([], [])).2.length 4000 else 0) = n3 at *
    rw [stg1 k pen.length (s + n1 + n2 + n3) _ (by omega)]
    simp only [Option.bind_some]
    have c4 : (if k < pen.length then min (pen.getD k []).length 4000 else 0) ≤ 4000 := by split <;> omega
    generalize hc4 : (if k < pen.length then min (pen.getD k []).length 4000 else 0) = n4 at *
    rw [stg1 k awa.length (s + n1 + n2 + n3 + n4) _ (by omega)]
    simp only [Option.bind_some]
    have hadd : add8 conf rep cfs pen awa k = n1 + n2 + n3 + n4 + (if k < awa.length then min (awa.getD k []).length 4000 else 0) := by
      unfold add8; rw [hc1, hc2, hc3, hc4]
    have c5 : (if k < awa.length then min (awa.getD k []).length 4000 else 0) ≤ 4000 := by split <;> omega
    generalize hc5 : (if k < awa.length then min (awa.getD k []).length 4000 else 0) = n5 at *
    rw [hadd, show s + (n1 + n2 + n3 + n4 + n5) = s + n1 + n2 + n3 + n4 + n5 by omega, w64 (n := (k : Int) + 1) (by omega) (by omega)]
    by_cases hq : 4000 < s + n1 + n2 + n3 + n4 + n5
    · rw [if_pos hq, decide_eq_true (by omega)]; rfl
    · rw [if_neg hq, decide_eq_false (by omega)]
      simp only [cond_false]
      congr 3

/-- What the inner loop tells. -/
def In8 (s0 s k : Nat) : Prop := s0 ≤ s ∧ k ≤ 70 ∧ s ≤ 30000 ∧ (0 < k → s ≤ 4000) ∧ (∀ j, j < k → j < dep.length → (dep.getD j []).length ≤ 70) ∧ ∀ j, j < k → j < conf.length → (conf.getD j ([], [], [])).2.2.length ≤ 4000

theorem few8_in (s0 : Nat) (hs : s0 ≤ 30000) (h1 : 1 ≤ s0) : ∃ y, iter (cellarerlaw08_Few_b0 dep conf rep cfs pen awa) ((s0 : Int), (0 : Int)) = some y ∧ ∀ t, y = .inr t → ∃ m : Nat, t = (m : Int) ∧ m ≤ 4000 ∧ s0 ≤ 4000 ∧ (∀ j, j < 70 → j < dep.length → (dep.getD j []).length ≤ 70) ∧ ∀ j, j < 70 → j < conf.length → (conf.getD j ([], [], [])).2.2.length ≤ 4000 := by
  refine tot2 _ 70 (fun s k => In8 dep conf s0 s k) _ (fun s k hI hk => ?_) (fun s k hI hk => ?_) 70 s0 0 rfl ⟨by omega, by omega, hs, by omega, fun j hj => by omega, fun j hj => by omega⟩
  · obtain ⟨i1, i2, i3, i4, i5, i6⟩ := hI
    have hk70 : k = 70 := by omega
    subst hk70
    refine ⟨(s : Int), ?_, s, rfl, i4 (by omega), by have := i4 (by omega); omega, i5, i6⟩
    unfold cellarerlaw08_Few_b0
    simp only [Prod.snd, Prod.fst]
    rw [decide_eq_false (by omega)]
    rfl
  · obtain ⟨i1, i2, i3, i4, i5, i6⟩ := hI
    have hb := few8_body dep conf rep cfs pen awa s k i3 hk
    by_cases hd : k < dep.length ∧ 70 < (dep.getD k []).length
    · rw [if_pos hd] at hb; exact .inl hb
    · rw [if_neg hd] at hb
      by_cases hq : 4000 < s + add8 conf rep cfs pen awa k
      · rw [if_pos hq] at hb; exact .inl hb
      · rw [if_neg hq] at hb
        refine .inr ⟨_, ⟨by omega, by omega, by omega, fun _ => by omega, fun j hj hjd => ?_, fun j hj hjc => ?_⟩, hb⟩
        · by_cases hjk : j = k
          · subst hjk
            rcases Nat.lt_or_ge 70 (dep.getD j []).length with h | h
            · exact absurd ⟨hjd, h⟩ hd
            · exact h
          · exact i5 j (by omega) hjd
        · by_cases hjk : j = k
          · subst hjk
            have : min (conf.getD j ([], [], [])).2.2.length 4000 ≤ add8 conf rep cfs pen awa j := by
              unfold add8
              rw [if_pos hjc]
              omega
            rcases Nat.lt_or_ge 4000 (conf.getD j ([], [], [])).2.2.length with h | h
            · rw [Nat.min_eq_right (by omega)] at this; omega
            · exact h
          · exact i6 j (by omega) hjc

end

/-- A record that Go's memory may hold. -/
def FitRec (x : Rec) : Prop := ∀ g ∈ x.2.2.2.1, g.length ≤ 9223372036854775807 ∧ ∀ y ∈ g, FitR y

def FactR (x : Rec) : Prop := x.2.1.length ≤ 4000 ∧ x.2.2.2.1.length ≤ 70 ∧ (∀ g ∈ x.2.2.2.1, g.length ≤ 70) ∧ x.2.2.2.2.1.length ≤ 70 ∧ ∀ y ∈ x.2.2.2.2.1, y.2.2.length ≤ 4000

theorem mem_getD {α : Type} {L : List α} {x : α} (d : α) (h : x ∈ L) : ∃ j, j < L.length ∧ L.getD j d = x := by
  obtain ⟨j, hj, rfl⟩ := List.getElem_of_mem h
  exact ⟨j, hj, getD_at L j d hj⟩

theorem few8_step (l : List Rec) (k s : Nat) (hl : l.length ≤ 70) (hk : k < l.length) (hs : s ≤ 4000) (hf : FitRec (l.getD k z9)) :
    cellarerlaw08_Few_b1 l ((s : Int), (k : Int)) = some (.inr (.inl ())) ∨ ∃ m : Nat, m ≤ 4000 ∧ FactR (l.getD k z9) ∧ cellarerlaw08_Few_b1 l ((s : Int), (k : Int)) = some (.inl ((m : Int), ((k + 1 : Nat) : Int))) := by
  generalize hx : l.getD k z9 = x at hf
  have hx' : l.getD k ([], [], (0 : Int), [], [], [], [], [], []) = x := hx
  unfold cellarerlaw08_Few_b1
  simp only [Prod.snd, Prod.fst, Int.toNat_natCast]
  rw [decide_eq_true (show (k : Int) < (l.length : Int) by omega), if_pos (by omega)]
  simp only [cond_true, hx']
  by_cases h1 : 70 < x.2.2.2.1.length
  · left; rw [decide_eq_true (show (70 : Int) < (x.2.2.2.1.length : Int) by omega)]; rfl
  rw [decide_eq_false (show ¬ (70 : Int) < (x.2.2.2.1.length : Int) by omega)]
  by_cases h2 : 70 < x.2.2.2.2.1.length
  · left; rw [decide_eq_true (show (70 : Int) < (x.2.2.2.2.1.length : Int) by omega)]; rfl
  rw [decide_eq_false (show ¬ (70 : Int) < (x.2.2.2.2.1.length : Int) by omega)]
  by_cases h3 : 70 < x.2.2.2.2.2.1.length
  · left; rw [decide_eq_true (show (70 : Int) < (x.2.2.2.2.2.1.length : Int) by omega)]; rfl
  rw [decide_eq_false (show ¬ (70 : Int) < (x.2.2.2.2.2.1.length : Int) by omega)]
  by_cases h4 : 70 < x.2.2.2.2.2.2.1.length
  · left; rw [decide_eq_true (show (70 : Int) < (x.2.2.2.2.2.2.1.length : Int) by omega)]; rfl
  rw [decide_eq_false (show ¬ (70 : Int) < (x.2.2.2.2.2.2.1.length : Int) by omega)]
  by_cases h5 : 70 < x.2.2.2.2.2.2.2.1.length
  · left; rw [decide_eq_true (show (70 : Int) < (x.2.2.2.2.2.2.2.1.length : Int) by omega)]; rfl
  rw [decide_eq_false (show ¬ (70 : Int) < (x.2.2.2.2.2.2.2.1.length : Int) by omega)]
  by_cases h6 : 70 < x.2.2.2.2.2.2.2.2.length
  · left; rw [decide_eq_true (show (70 : Int) < (x.2.2.2.2.2.2.2.2.length : Int) by omega)]; rfl
  rw [decide_eq_false (show ¬ (70 : Int) < (x.2.2.2.2.2.2.2.2.length : Int) by omega)]
  simp only [cond_false, Option.bind_some, Sum.elim_inr]
  obtain ⟨d, hd⟩ := all_any x.2.2.2.1 (by omega) hf
  rw [hd]
  simp only [Option.bind_some, mc4]
  have b1 : min x.1.length 4000 ≤ 4000 := Nat.min_le_right _ _
  have b2 : min x.2.1.length 4000 ≤ 4000 := Nat.min_le_right _ _
  have b3 : min d.1.length 4000 ≤ 4000 := Nat.min_le_right _ _
  rw [w64 (n := (20 : Int) + (x.2.2.2.2.1.length : Int)) (by omega) (by omega),
    w64 (n := (20 : Int) + (x.2.2.2.2.1.length : Int) + ((min x.1.length 4000 : Nat) : Int)) (by omega) (by omega),
    w64 (n := (20 : Int) + (x.2.2.2.2.1.length : Int) + ((min x.1.length 4000 : Nat) : Int) + ((min x.2.1.length 4000 : Nat) : Int)) (by omega) (by omega),
    w64 (n := (20 : Int) + (x.2.2.2.2.1.length : Int) + ((min x.1.length 4000 : Nat) : Int) + ((min x.2.1.length 4000 : Nat) : Int) + ((min d.1.length 4000 : Nat) : Int)) (by omega) (by omega),
    w64 (n := (s : Int) + ((20 : Int) + (x.2.2.2.2.1.length : Int) + ((min x.1.length 4000 : Nat) : Int) + ((min x.2.1.length 4000 : Nat) : Int) + ((min d.1.length 4000 : Nat) : Int))) (by omega) (by omega),
    show (s : Int) + ((20 : Int) + (x.2.2.2.2.1.length : Int) + ((min x.1.length 4000 : Nat) : Int) + ((min x.2.1.length 4000 : Nat) : Int) + ((min d.1.length 4000 : Nat) : Int)) = ((s + (20 + x.2.2.2.2.1.length + min x.1.length 4000 + min x.2.1.length 4000 + min d.1.length 4000) : Nat) : Int) by omega]
  obtain ⟨y, y1, y2⟩ := few8_in x.2.2.2.1 x.2.2.2.2.1 x.2.2.2.2.2.1 x.2.2.2.2.2.2.1 x.2.2.2.2.2.2.2.1 x.2.2.2.2.2.2.2.2 (s + (20 + x.2.2.2.2.1.length + min x.1.length 4000 + min x.2.1.length 4000 + min d.1.length 4000)) (by omega) (by omega)
  rw [y1]
  cases y with
  | inl u => left; rfl
  | inr t =>
    obtain ⟨m, rfl, q1, q2, q3, q4⟩ := y2 t rfl
    right
    refine ⟨m, q1, ⟨?_, by omega, fun g hg => ?_, by omega, fun z hz => ?_⟩, ?_⟩
    · rcases Nat.lt_or_ge 4000 x.2.1.length with h | h
      · rw [Nat.min_eq_right (show 4000 ≤ x.2.1.length by omega)] at q2; omega
      · exact h
    · obtain ⟨j, hj, hjg⟩ := mem_getD [] hg
      rw [← hjg]
      exact q3 j (by omega) hj
    · obtain ⟨j, hj, hjz⟩ := mem_getD ([], [], []) hz
      rw [← hjz]
      exact q4 j (by omega) hj
    · simp only [Option.bind_some, Sum.elim_inr]
      rw [kplus hk (by omega)]

theorem few8 (l : List Rec) (hf : ∀ x ∈ l, FitRec x) : ∃ b, cellarerlaw08_Few l = some b ∧ (b = true → l.length ≤ 70 ∧ ∀ x ∈ l, FactR x) := by
  unfold cellarerlaw08_Few
  by_cases h : 70 < l.length
  · rw [decide_eq_true (show (70 : Int) < (l.length : Int) by omega)]; exact ⟨false, rfl, fun h => by cases h⟩
  · rw [decide_eq_false (show ¬ (70 : Int) < (l.length : Int) by omega)]
    obtain ⟨y, h1, h2⟩ := tot2 (cellarerlaw08_Few_b1 l) l.length (fun s k => s ≤ 4000 ∧ k ≤ l.length ∧ ∀ j, j < k → FactR (l.getD j z9)) (fun _ => ∀ x ∈ l, FactR x) (fun s k hI hk => ⟨(), by
      unfold cellarerlaw08_Few_b1
      simp [show ¬ k < l.length by omega], fun x hx => by
      obtain ⟨j, hj, hjx⟩ := mem_getD z9 hx
      rw [← hjx]
      exact hI.2.2 j (by omega)⟩) (fun s k hI hk => by
      have hm : l.getD k z9 ∈ l := by rw [getD_at l k z9 hk]; exact List.getElem_mem hk
      rcases few8_step l k s (by omega) hk hI.1 (hf _ hm) with q | ⟨m, q1, q2, q3⟩
      · exact .inl q
      · refine .inr ⟨m, ⟨q1, by omega, fun j hj => ?_⟩, q3⟩
        by_cases hjk : j = k
        · subst hjk; exact q2
        · exact hI.2.2 j (by omega)) l.length 0 0 rfl ⟨by omega, by omega, fun j hj => by omega⟩
    have h1' : iter (cellarerlaw08_Few_b1 l) ((0 : Int), (0 : Int)) = some y := h1
    simp only [cond_false]
    rw [h1']
    cases y with
    | inl u => exact ⟨false, rfl, fun h => by cases h⟩
    | inr u => exact ⟨true, rfl, fun _ => ⟨by omega, h2 u rfl⟩⟩

end Go.Cellar
