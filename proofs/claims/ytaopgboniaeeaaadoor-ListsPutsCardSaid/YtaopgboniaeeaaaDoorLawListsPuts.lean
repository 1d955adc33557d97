/-
  PROVED: the given law 'cellarer/cellarerlaw13.ListsPuts' returns true for every input that fits its parameters' types, and its arguments read behind the call as they read before. Condition: the package-level variables that the row lists start as the program's text lays them (the card ties them).
-/
import Derived.Test.YtaopgboniaeeaaaDoorAbs25
import Derived.Test.YtaopgboniaeeaaaDoorCon13b
import Derived.Test.YtaopgboniaeeaaaDoorPl13p
import Derived.Test.YtaopgboniaeeaaaDoorRows
import Derived.Test.YtaopgboniaeeaaaDoorTie
import Derived.Test.YtaopgboniaeeaaaDoorCards
import Derived.WalkKit
import Derived.ProofKit
import Derived.Lay
import Derived.LaidOnce
import Derived.SevenTiedAt
namespace Go.Proofs.YtaopgboniaeeaaaDoor.listsPuts
open Go Go.Cellar Go.ChangeShapes Go.WideShapes Go.ChangeAt Go.RowKit
set_option linter.unusedVariables false
theorem own : ownKnob Tryd.prog.godebug = none := by kernel_rfl
theorem laidOut : laidOutB Tryd.prog = true := by kernel_rfl
theorem law (xs : Args [.list (.prod .str (.list .str)), (.prod .str (.list .str)), .str]) (h : argsFit [.list (.prod .str (.list .str)), (.prod .str (.list .str)), .str] xs) : Con Tryd.prog 6 (argAVs [.list (.prod .str (.list .str)), (.prod .str (.list .str)), .str] xs) [] (.bool true) [] :=
  cellarerlaw13_ListsPuts_con (ListsPuts_true xs.1 xs.2.1.1 xs.2.1.2 xs.2.2.1)

set_option maxRecDepth 100000 in
theorem lifted (os : Os) (started : os.Started) (H : Type) (enc : TypeId × Value → H) :
    ReturnsInHanded {} Tryd.checked os 6 .any (fun w args => (Rows.listsPutsSpec.pre enc Tryd.prog Tryd.f6 [] false w args ∧ laidMetH Tryd.prog Rows.listsPutsRow.laid w) ∧ sizedMet enc Tryd.prog Tryd.f6 (OpenSpec.ofChange Rows.listsPutsSpec) false w args)
      (Rows.listsPutsSpec.post enc Tryd.prog Tryd.f6 false true false false) := by
  refine returns_shaped (C := Tryd.checked) (X := fun w _ => laidMetH Tryd.prog Rows.listsPutsRow.laid w) (fun _ _ _ hh h => h.of_heap hh) own started (by kernel_rfl) Tryd.func6
    (ChangeSpec.witness_shaped (enc := enc) (C := Tryd.checked) (os := os) (X := fun w _ => laidMetH Tryd.prog Rows.listsPutsRow.laid w) false (World.laidAll Tryd.prog os Rows.listsPutsRow.laid) #[.slice none 0 0, .agg #[.string ByteArray.empty, .slice none 0 0], .string ByteArray.empty] 8 (World.laidAll_os _ _ _)
      (World.shaped_of_ZipB (by kernel_rfl) (by kernel_rfl)) (by kernel_rfl) (by kernel_rfl) (by kernel_rfl)
      (by rw [MakeChecks.laidMetH_plain _ _ _ (by kernel_rfl)]; exact laidMet_laidAll _ (by kernel_rfl) (by kernel_rfl))) ?_
  intro W base args ds gs before hval hsh hW
  exact law_post (C := Tryd.checked) [.list (.prod .str (.list .str)), (.prod .str (.list .str)), .str] (by kernel_rfl) (by kernel_rfl) laidOut ⟨_, rfl, by kernel_rfl⟩ rfl
    (fun ds h => by match ds, h with | [d1, d2, d3], _ => rfl) law W base args ds gs before hval (globOk_of (by kernel_rfl) hsh) hW

theorem holds : Rows.ListsPutsSaid :=
  OpenClaim.holds_of_wide 6 Tryd.f6 rfl rfl rfl rfl rfl rfl rfl ⟨rfl, rfl, rfl, rfl, rfl⟩ rfl rfl rfl rfl rfl (by kernel_rfl) Tryd.func6 (by kernel_rfl)
    (of_decide_eq_true (by kernel_rfl)) (by unfold Func.isWrapper; first | (rw [if_pos (by decide +kernel)]; kernel_rfl) | (rw [if_neg (by decide +kernel)]; exact ⟨rfl, rfl⟩))
    (fun os started H enc _ => lifted os started H enc)
end Go.Proofs.YtaopgboniaeeaaaDoor.listsPuts
namespace Go.Proofs.YtaopgboniaeeaaaDoor
open Go

/-- The statement. -/
theorem listsPuts_card : Rows.ListsPutsCardSaid :=
  Claim7.holds_tied_plain_at .later [] [.data, .pinned] true (true, "a6ef6782320f967fa23aa0d368b30ab883273d390045efdbbb6427fbf87191a4") false listsPuts.holds (fun _ h => by cases h) (by kernel_rfl) (fun _ h => by cases h) listsPuts_row_tie rfl ⟨rfl, rfl⟩ (by kernel_rfl) rfl
    (fun f fn hf hfn => by
      obtain rfl : f = 6 := Option.some.inj ((show Tryd.prog.funcNamed "cellarer/cellarerlaw13.ListsPuts" = some 6 by kernel_rfl).symm.trans hf) |>.symm
      obtain rfl : fn = Tryd.f6 := (Option.some.inj (Tryd.func6.symm.trans hfn)).symm
      exact ⟨by kernel_rfl, fun j t ht => by
        have hm : t ∈ Tryd.f6.params.toList := by simpa using Array.mem_of_getElem? ht
        have hall : (Tryd.f6.params.toList.all fun u => !Tryd.prog.wantsStandIn u) = true := by kernel_rfl
        exact (show Tryd.prog.wantsStandIn t = false by simpa using List.all_eq_true.1 hall t hm)⟩)
    (by kernel_rfl)
#print axioms listsPuts_card
end Go.Proofs.YtaopgboniaeeaaaDoor
