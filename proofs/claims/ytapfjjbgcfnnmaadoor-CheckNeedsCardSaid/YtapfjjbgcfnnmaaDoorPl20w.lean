/- CheckNeeds, as a plain law. No condition. -/
import Derived.Test.YtapfjjbgcfnnmaaDoorPl20v
set_option linter.unusedSimpArgs false
set_option linter.unusedVariables false
set_option maxRecDepth 8000
set_option synthInstance.maxHeartbeats 2000000
set_option synthInstance.maxSize 100000
namespace Go.Cellar
open Go

theorem fact_smR {x : Rec} (h : FactR x) (hf : FitRec x) : SmR x := by
  obtain ⟨h1, h2, h3, h4, h5⟩ := h
  exact ⟨by omega, by omega, fun g hg => ⟨by have := h3 g hg; omega, fun y hy => ((hf g hg).2 y hy).2.2⟩, by omega, fun y hy => by have := h5 y hy; omega⟩

theorem sameL20 (a : List Rl) (ha : a.length < 1000002) : cellarerref07_SameList a a = some true := by
  have hl : iter (cellarerref07_SameList_b0 a a) (0 : Int) = some (.inr ()) := by
    have := all_loop (cellarerref07_SameList_b0 a a) (fun _ _ => true) a (fun k hk => by
      unfold cellarerref07_SameList_b0
      simp [show ¬ k < a.length by omega]) (fun k y r h => by
      obtain ⟨g1, g2, g3⟩ := drop_cons h ([], [], [])
      unfold cellarerref07_SameList_b0
      simp only [natlt, g1, decide_true, cond_true, Int.natCast_nonneg, true_and, if_true, Int.toNat_natCast, Bool.and_self, Bool.not_true, cond_false, kplus g1 (by omega)]) a 0 rfl
    have h2 : iter (cellarerref07_SameList_b0 a a) (0 : Int) = _ := this
    rw [h2, allFrom_all]
    simp
  unfold cellarerref07_SameList
  rw [hl]
  simp

theorem ints20 (a : List Int) (ha : a.length < 1000002) : cellarerlaw20_ints a a = some true := by
  have hl : iter (cellarerlaw20_ints_b0 a a) (0 : Int) = some (.inr ()) := by
    have := all_loop (cellarerlaw20_ints_b0 a a) (fun _ _ => true) a (fun k hk => by
      unfold cellarerlaw20_ints_b0
      simp [show ¬ k < a.length by omega]) (fun k y r h => by
      obtain ⟨g1, g2, g3⟩ := drop_cons h 0
      unfold cellarerlaw20_ints_b0
      simp only [natlt, g1, decide_true, cond_true, Int.natCast_nonneg, true_and, if_true, Int.toNat_natCast, Bool.not_true, cond_false, kplus g1 (by omega)]) a 0 rfl
    have h2 : iter (cellarerlaw20_ints_b0 a a) (0 : Int) = _ := this
    rw [h2, allFrom_all]
    simp
  unfold cellarerlaw20_ints
  rw [hl]
  simp

theorem CheckNeeds_true (recs : List Rec) (d o a i f lists) (n v : List UInt8) (dep : List (List Rl)) (conf : List Rl) (rep : List (List UInt8)) (files ints s1 s2 s3 s4) (name : List UInt8)
    (hf : ∀ x ∈ recs, FitRec x) (hx : FitRec (n, v, (0 : Int), dep, conf, rep, [], [], [])) :
    cellarerlaw20_CheckNeeds recs d o a i f lists n v dep conf rep files ints s1 s2 s3 s4 name = some true := by
  unfold cellarerlaw20_CheckNeeds
  rw [awake20]
  obtain ⟨b, h1, h2⟩ := few20 recs d o a i f lists hf
  rw [h1]
  cases b with
  | false => rfl
  | true =>
    obtain ⟨hl, hr⟩ := h2 rfl
    obtain ⟨b', h3, h4⟩ := few19 n v dep conf rep files ints s1 s2 s3 s4 hx
    simp only [Option.bind_some, Bool.not_true, cond_false]
    rw [h3]
    cases b' with
    | false => rfl
    | true =>
      obtain ⟨_, f2, f3, _, _⟩ := h4 rfl
      have f2' : dep.length ≤ 70 := f2
      have hsm : ∀ x ∈ recs, SmR x := fun x hxm => fact_smR (hr x hxm) (hf x hxm)
      have hg : ∀ g ∈ dep, SmG g := fun g hgm => ⟨by have := f3 g hgm; omega, fun y hy => ((hx g hgm).2 y hy).2.2⟩
      simp only [Option.bind_some, Bool.not_true, cond_false]
      by_cases hn : 300 < name.length
      · rw [decide_eq_true (show (300 : Int) < (name.length : Int) by omega)]; rfl
      · rw [decide_eq_false (show ¬ (300 : Int) < (name.length : Int) by omega)]
        simp only [cond_false, Option.bind_some, Sum.elim_inr]
        have ht := there_sm (show recs.length < 1000000 by omega) hsm
        rw [there_eq recs (by omega), refThere_eq recs (by omega)]
        simp only [Option.bind_some, List.drop_zero]
        rw [sameL20 _ (by have := ht.1; omega)]
        simp only [Option.bind_some, cond_true]
        rw [missing_eq recs _ _ _ _ _ _ dep (by omega) hsm (by omega) hg, refMissing_eq recs _ _ _ _ _ _ dep (by omega) hsm (by omega) hg]
        simp only [Option.bind_some]
        rw [ints20 _ (by have := lacksFrom_len (thereV recs) dep 0; unfold missV; omega)]
        simp only [Option.bind_some, cond_true]
        have hdl := drop_len recs name
        unfold check_Needed cellarerref20_Needed
        rw [drop_eq recs name (by omega), refDrop_eq recs name (by omega)]
        simp only [Option.bind_some]
        rw [need_loop recs (dropV name recs) _ _ _ _ _ _ _ _ _ _ _ _ (by omega) hsm (by omega) (drop_sm hsm), refNeed_loop recs (dropV name recs) _ _ _ _ _ _ (by omega) hsm (by omega) (drop_sm hsm)]
        simp only [Option.bind_some]
        rw [same20 _ (by
          rw [List.length_map]
          have := List.length_filter_le (needP recs (dropV name recs)) (dropV name recs)
          omega)]
        rfl

end Go.Cellar
