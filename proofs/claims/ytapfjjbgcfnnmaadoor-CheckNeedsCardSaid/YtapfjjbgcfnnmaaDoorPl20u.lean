/- A package small enough: always answered. CheckConflicts. No condition. -/
import Derived.Test.YtapfjjbgcfnnmaaDoorPl20t
set_option linter.unusedSimpArgs false
set_option linter.unusedVariables false
set_option maxRecDepth 8000
set_option synthInstance.maxHeartbeats 2000000
set_option synthInstance.maxSize 100000
namespace Go.Cellar
open Go

abbrev Act : Type := Int × List UInt8 × List UInt8 × List UInt8 × (Int × Int × Int) × Int × Bool × Bool × List (List UInt8 × List UInt8) × List (List UInt8)
abbrev za : Act := ((0 : Int), [], [], [], ((0 : Int), (0 : Int), (0 : Int)), (0 : Int), false, false, [], [])

theorem fewActs_any (l : List Act) : ∃ b, cellarerlaw19_FewActs l (10 : Int) = some b := by
  unfold cellarerlaw19_FewActs
  by_cases h : 10 < l.length
  · rw [decide_eq_true (show (10 : Int) < (l.length : Int) by omega)]; exact ⟨false, rfl⟩
  · rw [decide_eq_false (show ¬ (10 : Int) < (l.length : Int) by omega)]
    have := all_loop (cellarerlaw19_FewActs_b0 l) (fun _ x => decide (cellarerlaw11_Few [(x.2.1, x.2.2.2.1, false, x.2.2.1, x.2.2.2.2.2.2.2.2.1, [([], (0 : Int), x.2.2.2.2.2.2.2.2.2)])] = some true)) l (fun k hk => by
      unfold cellarerlaw19_FewActs_b0
      simp [show ¬ k < l.length by omega]) (fun k x r hd => by
      obtain ⟨g1, g2, g3⟩ := drop_cons hd za
      obtain ⟨v, v1, _⟩ := few11 x.2.1 x.2.2.2.1 x.2.2.1 x.2.2.2.2.2.2.2.2.1 x.2.2.2.2.2.2.2.2.2
      unfold cellarerlaw19_FewActs_b0
      simp only [natlt, g1, decide_true, cond_true, Int.natCast_nonneg, true_and, if_true, Int.toNat_natCast, g2, kplus g1 (by omega)]
      rw [v1]
      cases v
      · rw [decide_eq_false (by simp)]; rfl
      · rw [decide_eq_true rfl]; rfl) l 0 rfl
    have h2 : iter (cellarerlaw19_FewActs_b0 l) (0 : Int) = _ := this
    simp only [cond_false]
    rw [h2, allFrom_all]
    cases l.all fun x => decide (cellarerlaw11_Few [(x.2.1, x.2.2.2.1, false, x.2.2.1, x.2.2.2.2.2.2.2.2.1, [([], (0 : Int), x.2.2.2.2.2.2.2.2.2)])] = some true)
    · exact ⟨false, rfl⟩
    · exact ⟨true, rfl⟩

abbrev Fil : Type := List UInt8 × Int × (Int × Int × Int) × List UInt8 × Bool
abbrev zf : Fil := ([], (0 : Int), ((0 : Int), (0 : Int), (0 : Int)), [], false)

theorem mc6 (n : Nat) : (if (6000 : Int) < (n : Int) then (6000 : Int) else (n : Int)) = ((min n 6000 : Nat) : Int) := min_cap 6000 n

theorem files_any (o : List Fil) (h : o.length ≤ 40) : ∃ y, iter (cellarerlaw19_Few_b0 o) ((0 : Int), (0 : Int)) = some y := by
  obtain ⟨y, h1, _⟩ := tot2 (cellarerlaw19_Few_b0 o) o.length (fun s _ => s ≤ 6000) (fun _ => True) (fun s k hI hk => ⟨(), by
    unfold cellarerlaw19_Few_b0
    simp [show ¬ k < o.length by omega], trivial⟩) (fun s k hI hk => by
    generalize hx : o.getD k zf = x
    have hx' : o.getD k ([], (0 : Int), ((0 : Int), (0 : Int), (0 : Int)), [], false) = x := hx
    have b1 : min x.1.length 6000 ≤ 6000 := Nat.min_le_right _ _
    have b2 : min x.2.2.2.1.length 6000 ≤ 6000 := Nat.min_le_right _ _
    have hb : cellarerlaw19_Few_b0 o ((s : Int), (k : Int)) = some (if 6000 < s + (min x.1.length 6000 + min x.2.2.2.1.length 6000) then .inr (.inl ()) else .inl (((s + (min x.1.length 6000 + min x.2.2.2.1.length 6000) : Nat) : Int), ((k + 1 : Nat) : Int))) := by
      unfold cellarerlaw19_Few_b0
      simp only [Prod.snd, Prod.fst, Int.toNat_natCast]
      rw [decide_eq_true (by omega), if_pos (by omega), if_pos (by omega)]
      simp only [cond_true, hx', mc6]
      rw [w64 (n := ((min x.1.length 6000 : Nat) : Int) + ((min x.2.2.2.1.length 6000 : Nat) : Int)) (by omega) (by omega), w64 (n := (s : Int) + (((min x.1.length 6000 : Nat) : Int) + ((min x.2.2.2.1.length 6000 : Nat) : Int))) (by omega) (by omega), kplus hk (by omega)]
      by_cases hq : 6000 < s + (min x.1.length 6000 + min x.2.2.2.1.length 6000)
      · rw [decide_eq_true (by omega), if_pos hq]; rfl
      · rw [decide_eq_false (by omega), if_neg hq]
        simp only [cond_false]
        congr 3
    by_cases hq : 6000 < s + (min x.1.length 6000 + min x.2.2.2.1.length 6000)
    · rw [if_pos hq] at hb; exact .inl hb
    · rw [if_neg hq] at hb; exact .inr ⟨_, by omega, hb⟩) o.length 0 0 rfl (by omega)
  exact ⟨y, h1⟩

theorem few19 (n v : List UInt8) (dep : List (List Rl)) (conf : List Rl) (rep : List (List UInt8)) (files : List Fil) (ints : List (List UInt8 × List UInt8 × Bool)) (s1 s2 s3 s4 : List Act)
    (hf : FitRec (n, v, (0 : Int), dep, conf, rep, [], [], [])) :
    ∃ b, cellarerlaw19_Few n v dep conf rep files ints s1 s2 s3 s4 = some b ∧ (b = true → FactR (n, v, (0 : Int), dep, conf, rep, [], [], [])) := by
  unfold cellarerlaw19_Few
  by_cases h40 : 40 < files.length
  · rw [decide_eq_true (show (40 : Int) < (files.length : Int) by omega)]
    exact ⟨false, rfl, fun h => by cases h⟩
  · rw [decide_eq_false (show ¬ (40 : Int) < (files.length : Int) by omega)]
    obtain ⟨b, h1, h2⟩ := few8 [(n, v, (0 : Int), dep, conf, rep, [], [], [])] (fun x hx => by simp only [List.mem_singleton] at hx; subst hx; exact hf)
    obtain ⟨b12, h12⟩ := few12 ints
    obtain ⟨y, hy⟩ := files_any files (by omega)
    obtain ⟨a1, e1⟩ := fewActs_any s1
    obtain ⟨a2, e2⟩ := fewActs_any s2
    obtain ⟨a3, e3⟩ := fewActs_any s3
    obtain ⟨a4, e4⟩ := fewActs_any s4
    simp only [cond_false]
    rw [h1, h12, hy, e1, e2, e3, e4]
    cases b with
    | false => exact ⟨false, rfl, fun h => by cases h⟩
    | true =>
      have hfact := (h2 rfl).2 _ (List.mem_singleton.mpr rfl)
      cases b12 with
      | false => exact ⟨false, rfl, fun h => by cases h⟩
      | true =>
        cases y with
        | inl u => exact ⟨false, rfl, fun h => by cases h⟩
        | inr u => cases a1 <;> cases a2 <;> cases a3 <;> cases a4 <;> first | exact ⟨false, rfl, fun h => by cases h⟩ | exact ⟨true, rfl, fun _ => hfact⟩

theorem few20 (recs : List Rec) (d : List (List UInt8 × List UInt8 × List UInt8)) (o a i f) (lists : List (List UInt8 × List (List UInt8))) (hf : ∀ x ∈ recs, FitRec x) :
    ∃ b, cellarerlaw20_few recs d o a i f lists = some b ∧ (b = true → recs.length ≤ 70 ∧ ∀ x ∈ recs, FactR x) := by
  unfold cellarerlaw20_few
  obtain ⟨b, h1, h2⟩ := few8 recs hf
  obtain ⟨b13, h13⟩ := few13 lists
  obtain ⟨b9, h9⟩ := few9 d
  rw [h1, h13, h9]
  cases b with
  | false => exact ⟨false, rfl, fun h => by cases h⟩
  | true =>
    cases b13 with
    | false => exact ⟨false, rfl, fun h => by cases h⟩
    | true => exact ⟨b9, rfl, fun _ => h2 rfl⟩

theorem fact_smC {x : Rec} (h : FactR x) : SmC x := by
  obtain ⟨h1, _, _, h4, h5⟩ := h
  exact ⟨by omega, by omega, fun y hy => by have := h5 y hy; omega⟩

/-- Are two lists one, from a place on? -/
theorem same20_loop (a : List (List UInt8)) (ha : a.length < 1000002) : iter (cellarerref02_Same_b0 a a) (0 : Int) = some (.inr ()) := by
  have key : ∀ (r : List (List UInt8)) (k : Nat), a.drop k = r → iter (cellarerref02_Same_b0 a a) (k : Int) = some (.inr ()) := by
    intro r
    induction r with
    | nil =>
      intro k h
      have hk := drop_nil h
      refine iter_inr ?_
      unfold cellarerref02_Same_b0
      simp [show ¬ k < a.length by omega]
    | cons y r ih =>
      intro k h
      obtain ⟨g1, g2, g3⟩ := drop_cons h []
      rw [iter_inl (s' := ((k + 1 : Nat) : Int)), ih (k + 1) g3]
      unfold cellarerref02_Same_b0
      simp only [natlt, g1, decide_true, cond_true, Int.natCast_nonneg, true_and, if_true, Int.toNat_natCast, Bool.not_true, cond_false, kplus g1 (by omega)]
  exact key a 0 rfl

theorem same20 (a : List (List UInt8)) (ha : a.length < 1000002) : cellarerref02_Same a a = some true := by
  unfold cellarerref02_Same
  rw [same20_loop a ha]
  simp

theorem CheckConflicts_true (recs : List Rec) (d o a i f lists) (n v : List UInt8) (dep : List (List Rl)) (conf : List Rl) (rep : List (List UInt8)) (files ints s1 s2 s3 s4)
    (hf : ∀ x ∈ recs, FitRec x) (hx : FitRec (n, v, (0 : Int), dep, conf, rep, [], [], [])) :
    cellarerlaw20_CheckConflicts recs d o a i f lists n v dep conf rep files ints s1 s2 s3 s4 = some true := by
  unfold cellarerlaw20_CheckConflicts
  rw [awake20]
  obtain ⟨b, h1, h2⟩ := few20 recs d o a i f lists hf
  rw [h1]
  cases b with
  | false => rfl
  | true =>
    obtain ⟨hl, hr⟩ := h2 rfl
    obtain ⟨b', h3, h4⟩ := few19 n v dep conf rep files ints s1 s2 s3 s4 hx
    simp only [Option.bind_some, Bool.not_true, cond_false]
    rw [h3]
    cases b' with
    | false => rfl
    | true =>
      have hfx := h4 rfl
      have hsx := fact_smC hfx
      have hv : v.length ≤ 9223372036854775807 := hsx.1
      have hc : SmG conf := hsx.2
      simp only [Option.bind_some, Bool.not_true, cond_false, Sum.elim_inr]
      unfold check_Conflicts cellarerref20_Conflicts
      rw [conf_loop recs n v conf (by omega) (fun x hx => fact_smC (hr x hx)) hc hv, refConf_loop recs n v conf (by omega) (fun x hx => fact_smC (hr x hx)) hc hv]
      have hlen : ((recs.filter (confP n v conf)).map fun x => x.1).length < 1000002 := by
        rw [List.length_map]
        have := List.length_filter_le (confP n v conf) recs
        omega
      simp only [Option.bind_some, List.drop_zero]
      rw [same20 _ hlen]
      rfl

end Go.Cellar
