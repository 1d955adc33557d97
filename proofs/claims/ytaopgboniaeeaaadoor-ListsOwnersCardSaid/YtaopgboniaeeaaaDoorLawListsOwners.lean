/-
  PROVED: the given law 'cellarer/cellarerlaw13.ListsOwners' returns true for every input that fits its parameters' types, and its arguments read behind the call as they read before. Condition: the package-level variables that the row lists start as the program's text lays them (the card ties them).
-/
import Derived.Test.YtaopgboniaeeaaaDoorAbs25
import Derived.Test.YtaopgboniaeeaaaDoorCon13oa
import Derived.Test.YtaopgboniaeeaaaDoorPl13o
import Derived.Test.YtaopgboniaeeaaaDoorRows
import Derived.Test.YtaopgboniaeeaaaDoorTie
import Derived.Test.YtaopgboniaeeaaaDoorCards
import Derived.WalkKit
import Derived.ProofKit
import Derived.Lay
import Derived.LaidOnce
import Derived.SevenTiedAt
namespace Go.Proofs.YtaopgboniaeeaaaDoor.listsOwners
open Go Go.Cellar Go.ChangeShapes Go.WideShapes Go.ChangeAt Go.RowKit
set_option linter.unusedVariables false
theorem own : ownKnob Tryd.prog.godebug = none := by kernel_rfl
theorem laidOut : laidOutB Tryd.prog = true := by kernel_rfl
theorem law (xs : Args [.list (.prod .str (.list .str)), .str, (.prod .str (.list .str))]) (h : argsFit [.list (.prod .str (.list .str)), .str, (.prod .str (.list .str))] xs) : Con Tryd.prog 5 (argAVs [.list (.prod .str (.list .str)), .str, (.prod .str (.list .str))] xs) [] (.bool true) [] :=
  cellarerlaw13_ListsOwners_F_con (ListsOwners_true xs.1 xs.2.1 xs.2.2.1.1 xs.2.2.1.2)

set_option maxRecDepth 100000 in
theorem lifted (os : Os) (started : os.Started) (H : Type) (enc : TypeId × Value → H) :
    ReturnsInHanded {} Tryd.checked os 5 .any (fun w args => (Rows.listsOwnersSpec.pre enc Tryd.prog Tryd.f5 [] false w args ∧ laidMetH Tryd.prog Rows.listsOwnersRow.laid w) ∧ sizedMet enc Tryd.prog Tryd.f5 (OpenSpec.ofChange Rows.listsOwnersSpec) false w args)
      (Rows.listsOwnersSpec.post enc Tryd.prog Tryd.f5 false true false false) := by
  refine returns_shaped (C := Tryd.checked) (X := fun w _ => laidMetH Tryd.prog Rows.listsOwnersRow.laid w) (fun _ _ _ hh h => h.of_heap hh) own started (by kernel_rfl) Tryd.func5
    (ChangeSpec.witness_shaped (enc := enc) (C := Tryd.checked) (os := os) (X := fun w _ => laidMetH Tryd.prog Rows.listsOwnersRow.laid w) false (World.laidAll Tryd.prog os Rows.listsOwnersRow.laid) #[.slice none 0 0, .string ByteArray.empty, .agg #[.string ByteArray.empty, .slice none 0 0]] 8 (World.laidAll_os _ _ _)
      (World.shaped_of_ZipB (by kernel_rfl) (by kernel_rfl)) (by kernel_rfl) (by kernel_rfl) (by kernel_rfl)
      (by rw [MakeChecks.laidMetH_plain _ _ _ (by kernel_rfl)]; exact laidMet_laidAll _ (by kernel_rfl) (by kernel_rfl))) ?_
  intro W base args ds gs before hval hsh hW
  exact law_post (C := Tryd.checked) [.list (.prod .str (.list .str)), .str, (.prod .str (.list .str))] (by kernel_rfl) (by kernel_rfl) laidOut ⟨_, rfl, by kernel_rfl⟩ rfl
    (fun ds h => by match ds, h with | [d1, d2, d3], _ => rfl) law W base args ds gs before hval (globOk_of (by kernel_rfl) hsh) hW

theorem holds : Rows.ListsOwnersSaid :=
  OpenClaim.holds_of_wide 5 Tryd.f5 rfl rfl rfl rfl rfl rfl rfl ⟨rfl, rfl, rfl, rfl, rfl⟩ rfl rfl rfl rfl rfl (by kernel_rfl) Tryd.func5 (by kernel_rfl)
    (of_decide_eq_true (by kernel_rfl)) (by unfold Func.isWrapper; first | (rw [if_pos (by decide +kernel)]; kernel_rfl) | (rw [if_neg (by decide +kernel)]; exact ⟨rfl, rfl⟩))
    (fun os started H enc _ => lifted os started H enc)
end Go.Proofs.YtaopgboniaeeaaaDoor.listsOwners
namespace Go.Proofs.YtaopgboniaeeaaaDoor
open Go

/-- The statement. -/
theorem listsOwners_card : Rows.ListsOwnersCardSaid :=
  Claim7.holds_tied_plain_at .later [] [.data, .pinned] true (true, "a6ef6782320f967fa23aa0d368b30ab883273d390045efdbbb6427fbf87191a4") false listsOwners.holds (fun _ h => by cases h) (by kernel_rfl) (fun _ h => by cases h) listsOwners_row_tie rfl ⟨rfl, rfl⟩ (by kernel_rfl) rfl
    (fun f fn hf hfn => by
      obtain rfl : f = 5 := Option.some.inj ((show Tryd.prog.funcNamed "cellarer/cellarerlaw13.ListsOwners" = some 5 by kernel_rfl).symm.trans hf) |>.symm
      obtain rfl : fn = Tryd.f5 := (Option.some.inj (Tryd.func5.symm.trans hfn)).symm
      exact ⟨by kernel_rfl, fun j t ht => by
        have hm : t ∈ Tryd.f5.params.toList := by simpa using Array.mem_of_getElem? ht
        have hall : (Tryd.f5.params.toList.all fun u => !Tryd.prog.wantsStandIn u) = true := by kernel_rfl
        exact (show Tryd.prog.wantsStandIn t = false by simpa using List.all_eq_true.1 hall t hm)⟩)
    (by kernel_rfl)
#print axioms listsOwners_card
end Go.Proofs.YtaopgboniaeeaaaDoor
