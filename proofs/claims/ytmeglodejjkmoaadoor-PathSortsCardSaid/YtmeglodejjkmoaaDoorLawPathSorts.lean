/-
  PROVED: the given law 'cellarer/cellarerlaw02.PathSorts' returns true for every input that fits its parameters' types, and its arguments read behind the call as they read before. Condition: the package-level variables that the row lists start as the program's text lays them (the card ties them).
-/
import Derived.Test.YtmeglodejjkmoaaDoorAbs25
import Derived.Test.YtmeglodejjkmoaaDoorCon2a
import Derived.Test.YtmeglodejjkmoaaDoorPl2v
import Derived.Test.YtmeglodejjkmoaaDoorRows
import Derived.Test.YtmeglodejjkmoaaDoorTie
import Derived.Test.YtmeglodejjkmoaaDoorCards
import Derived.WalkKit
import Derived.ProofKit
import Derived.Lay
import Derived.LaidOnce
import Derived.SevenTiedAt
namespace Go.Proofs.YtmeglodejjkmoaaDoor.pathSorts
open Go Go.Cellar Go.ChangeShapes Go.WideShapes Go.ChangeAt Go.RowKit
set_option linter.unusedVariables false
theorem own : ownKnob Tryd.prog.godebug = none := by kernel_rfl
theorem laidOut : laidOutB Tryd.prog = true := by kernel_rfl
theorem law (xs : Args [.list .str]) (h : argsFit [.list .str] xs) : Con Tryd.prog 8 (argAVs [.list .str] xs) [] (.bool true) [] :=
  cellarerlaw02_PathSorts_con (PathSorts_true xs.1)

set_option maxRecDepth 100000 in
theorem lifted (os : Os) (started : os.Started) (H : Type) (enc : TypeId × Value → H) :
    ReturnsInHanded {} Tryd.checked os 8 .any (fun w args => (Rows.pathSortsSpec.pre enc Tryd.prog Tryd.f8 [] false w args ∧ laidMetH Tryd.prog Rows.pathSortsRow.laid w) ∧ sizedMet enc Tryd.prog Tryd.f8 (OpenSpec.ofChange Rows.pathSortsSpec) false w args)
      (Rows.pathSortsSpec.post enc Tryd.prog Tryd.f8 false true false false) := by
  refine returns_shaped (C := Tryd.checked) (X := fun w _ => laidMetH Tryd.prog Rows.pathSortsRow.laid w) (fun _ _ _ hh h => h.of_heap hh) own started (by kernel_rfl) Tryd.func8
    (ChangeSpec.witness_shaped (enc := enc) (C := Tryd.checked) (os := os) (X := fun w _ => laidMetH Tryd.prog Rows.pathSortsRow.laid w) false (World.laidAll Tryd.prog os Rows.pathSortsRow.laid) #[.slice none 0 0] 8 (World.laidAll_os _ _ _)
      (World.shaped_of_ZipB (by kernel_rfl) (by kernel_rfl)) (by kernel_rfl) (by kernel_rfl) (by kernel_rfl)
      (by rw [MakeChecks.laidMetH_plain _ _ _ (by kernel_rfl)]; exact laidMet_laidAll _ (by kernel_rfl) (by kernel_rfl))) ?_
  intro W base args ds gs before hval hsh hW
  exact law_post (C := Tryd.checked) [.list .str] (by kernel_rfl) (by kernel_rfl) laidOut ⟨_, rfl, by kernel_rfl⟩ rfl
    (fun ds h => by match ds, h with | [d], _ => rfl) law W base args ds gs before hval (globOk_of (by kernel_rfl) hsh) hW

theorem holds : Rows.PathSortsSaid :=
  OpenClaim.holds_of_wide 8 Tryd.f8 rfl rfl rfl rfl rfl rfl rfl ⟨rfl, rfl, rfl, rfl, rfl⟩ rfl rfl rfl rfl rfl (by kernel_rfl) Tryd.func8 (by kernel_rfl)
    (of_decide_eq_true (by kernel_rfl)) (by unfold Func.isWrapper; first | (rw [if_pos (by decide +kernel)]; kernel_rfl) | (rw [if_neg (by decide +kernel)]; exact ⟨rfl, rfl⟩))
    (fun os started H enc _ => lifted os started H enc)
end Go.Proofs.YtmeglodejjkmoaaDoor.pathSorts
namespace Go.Proofs.YtmeglodejjkmoaaDoor
open Go

/-- The statement. -/
theorem pathSorts_card : Rows.PathSortsCardSaid :=
  Claim7.holds_tied_plain_at .later [] [.data, .pinned] true (true, "4b4652b0071578fa8800e054f660ba4f1c0ab2d6265d6b57ef588d090a41f819") false pathSorts.holds (fun _ h => by cases h) (by kernel_rfl) (fun _ h => by cases h) pathSorts_row_tie rfl ⟨rfl, rfl⟩ (by kernel_rfl) rfl
    (fun f fn hf hfn => by
      obtain rfl : f = 8 := Option.some.inj ((show Tryd.prog.funcNamed "cellarer/cellarerlaw02.PathSorts" = some 8 by kernel_rfl).symm.trans hf) |>.symm
      obtain rfl : fn = Tryd.f8 := (Option.some.inj (Tryd.func8.symm.trans hfn)).symm
      exact ⟨by kernel_rfl, fun j t ht => by
        have hm : t ∈ Tryd.f8.params.toList := by simpa using Array.mem_of_getElem? ht
        have hall : (Tryd.f8.params.toList.all fun u => !Tryd.prog.wantsStandIn u) = true := by kernel_rfl
        exact (show Tryd.prog.wantsStandIn t = false by simpa using List.all_eq_true.1 hall t hm)⟩)
    (by kernel_rfl)
#print axioms pathSorts_card
end Go.Proofs.YtmeglodejjkmoaaDoor
