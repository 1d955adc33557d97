/-
  PROVED: the given law 'cellarer/cellarerlaw19.PackReserved' returns true for every input that fits its parameters' types, and its arguments read behind the call as they read before. Condition: the package-level variables that the row lists start as the program's text lays them (the card ties them).
-/
import Derived.Test.YtapokbncaidgdaaDoorAbs25
import Derived.Test.YtapokbncaidgdaaDoorCon19b
import Derived.Test.YtapokbncaidgdaaDoorPl19d
import Derived.Test.YtapokbncaidgdaaDoorRows
import Derived.Test.YtapokbncaidgdaaDoorTie
import Derived.Test.YtapokbncaidgdaaDoorCards
import Derived.WalkKit
import Derived.ProofKit
import Derived.Lay
import Derived.LaidOnce
import Derived.SevenTiedAt
namespace Go.Proofs.YtapokbncaidgdaaDoor.packReserved
open Go Go.Cellar Go.ChangeShapes Go.WideShapes Go.ChangeAt Go.RowKit
set_option linter.unusedVariables false
theorem own : ownKnob Tryd.prog.godebug = none := by kernel_rfl
theorem laidOut : laidOutB Tryd.prog = true := by kernel_rfl
theorem law (xs : Args [.str]) (h : argsFit [.str] xs) : Con Tryd.prog 3 (argAVs [.str] xs) [] (.bool true) [] :=
  cellarerlaw19_PackReserved_con (PackReserved_true xs.1)

set_option maxRecDepth 100000 in
theorem lifted (os : Os) (started : os.Started) (H : Type) (enc : TypeId × Value → H) :
    ReturnsInHanded {} Tryd.checked os 3 .any (fun w args => (Rows.packReservedSpec.pre enc Tryd.prog Tryd.f3 [] false w args ∧ laidMetH Tryd.prog Rows.packReservedRow.laid w) ∧ sizedMet enc Tryd.prog Tryd.f3 (OpenSpec.ofChange Rows.packReservedSpec) false w args)
      (Rows.packReservedSpec.post enc Tryd.prog Tryd.f3 false true false false) := by
  refine returns_shaped (C := Tryd.checked) (X := fun w _ => laidMetH Tryd.prog Rows.packReservedRow.laid w) (fun _ _ _ hh h => h.of_heap hh) own started (by kernel_rfl) Tryd.func3
    (ChangeSpec.witness_shaped (enc := enc) (C := Tryd.checked) (os := os) (X := fun w _ => laidMetH Tryd.prog Rows.packReservedRow.laid w) false (World.laidAll Tryd.prog os Rows.packReservedRow.laid) #[.string ByteArray.empty] 8 (World.laidAll_os _ _ _)
      (World.shaped_of_ZipB (by kernel_rfl) (by kernel_rfl)) (by kernel_rfl) (by kernel_rfl) (by kernel_rfl)
      (by rw [MakeChecks.laidMetH_plain _ _ _ (by kernel_rfl)]; exact laidMet_laidAll _ (by kernel_rfl) (by kernel_rfl))) ?_
  intro W base args ds gs before hval hsh hW
  exact law_post (C := Tryd.checked) [.str] (by kernel_rfl) (by kernel_rfl) laidOut ⟨_, rfl, by kernel_rfl⟩ rfl
    (fun ds h => by match ds, h with | [d], _ => rfl) law W base args ds gs before hval (globOk_of (by kernel_rfl) hsh) hW

theorem holds : Rows.PackReservedSaid :=
  OpenClaim.holds_of_wide 3 Tryd.f3 rfl rfl rfl rfl rfl rfl rfl ⟨rfl, rfl, rfl, rfl, rfl⟩ rfl rfl rfl rfl rfl (by kernel_rfl) Tryd.func3 (by kernel_rfl)
    (of_decide_eq_true (by kernel_rfl)) (by unfold Func.isWrapper; first | (rw [if_pos (by decide +kernel)]; kernel_rfl) | (rw [if_neg (by decide +kernel)]; exact ⟨rfl, rfl⟩))
    (fun os started H enc _ => lifted os started H enc)
end Go.Proofs.YtapokbncaidgdaaDoor.packReserved
namespace Go.Proofs.YtapokbncaidgdaaDoor
open Go

/-- The statement. -/
theorem packReserved_card : Rows.PackReservedCardSaid :=
  Claim7.holds_tied_plain_at .later [] [.data, .pinned] true (true, "1c28627cb94c127bd28fa3f4f7e9b08206651a66a67bd2a6fd3f99ae2b8752bb") false packReserved.holds (fun _ h => by cases h) (by kernel_rfl) (fun _ h => by cases h) packReserved_row_tie rfl ⟨rfl, rfl⟩ (by kernel_rfl) rfl
    (fun f fn hf hfn => by
      obtain rfl : f = 3 := Option.some.inj ((show Tryd.prog.funcNamed "cellarer/cellarerlaw19.PackReserved" = some 3 by kernel_rfl).symm.trans hf) |>.symm
      obtain rfl : fn = Tryd.f3 := (Option.some.inj (Tryd.func3.symm.trans hfn)).symm
      exact ⟨by kernel_rfl, fun j t ht => by
        have hm : t ∈ Tryd.f3.params.toList := by simpa using Array.mem_of_getElem? ht
        have hall : (Tryd.f3.params.toList.all fun u => !Tryd.prog.wantsStandIn u) = true := by kernel_rfl
        exact (show Tryd.prog.wantsStandIn t = false by simpa using List.all_eq_true.1 hall t hm)⟩)
    (by kernel_rfl)
#print axioms packReserved_card
end Go.Proofs.YtapokbncaidgdaaDoor
