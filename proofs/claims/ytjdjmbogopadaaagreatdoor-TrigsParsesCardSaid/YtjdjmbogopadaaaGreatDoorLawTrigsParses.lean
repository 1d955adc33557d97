/-
  PROVED: the given law 'cellarer/cellarerlaw12.TrigsParses' returns true for every input that fits its parameters' types, and its arguments read behind the call as they read before. Condition: the package-level variables that the row lists start as the program's text lays them (the card ties them).
-/
import Derived.Test.YtjdjmbogopadaaaGreatDoorAbs25
import Derived.Test.YtjdjmbogopadaaaGreatDoorCon12pa
import Derived.Test.YtjdjmbogopadaaaGreatDoorPl12u
import Derived.Test.YtjdjmbogopadaaaGreatDoorRows
import Derived.Test.YtjdjmbogopadaaaGreatDoorTie
import Derived.Test.YtjdjmbogopadaaaGreatDoorCards
import Derived.WalkKit
import Derived.ProofKit
import Derived.Lay
import Derived.LaidOnce
import Derived.SevenTiedAt
namespace Go.Proofs.YtjdjmbogopadaaaGreatDoor.trigsParses
open Go Go.Cellar Go.ChangeShapes Go.WideShapes Go.ChangeAt Go.RowKit
set_option linter.unusedVariables false
theorem own : ownKnob Tryz.prog.godebug = none := by kernel_rfl
theorem laidOut : laidOutB Tryz.prog = true := by kernel_rfl
theorem law (xs : Args [.str]) (h : argsFit [.str] xs) : Con Tryz.prog 5 (argAVs [.str] xs) [] (.bool true) [] :=
  cellarerlaw12_TrigsParses_con (TrigsParses_true xs.1)

set_option maxRecDepth 100000 in
theorem lifted (os : Os) (started : os.Started) (H : Type) (enc : TypeId × Value → H) :
    ReturnsInHanded {} Tryz.checked os 5 .any (fun w args => (Rows.trigsParsesSpec.pre enc Tryz.prog Tryz.f5 [] false w args ∧ laidMetH Tryz.prog Rows.trigsParsesRow.laid w) ∧ sizedMet enc Tryz.prog Tryz.f5 (OpenSpec.ofChange Rows.trigsParsesSpec) false w args)
      (Rows.trigsParsesSpec.post enc Tryz.prog Tryz.f5 false true false false) := by
  refine returns_shaped (C := Tryz.checked) (X := fun w _ => laidMetH Tryz.prog Rows.trigsParsesRow.laid w) (fun _ _ _ hh h => h.of_heap hh) own started (by kernel_rfl) Tryz.func5
    (ChangeSpec.witness_shaped (enc := enc) (C := Tryz.checked) (os := os) (X := fun w _ => laidMetH Tryz.prog Rows.trigsParsesRow.laid w) false (World.laidAll Tryz.prog os Rows.trigsParsesRow.laid) #[.string ByteArray.empty] 8 (World.laidAll_os _ _ _)
      (World.shaped_of_ZipB (by kernel_rfl) (by kernel_rfl)) (by kernel_rfl) (by kernel_rfl) (by kernel_rfl)
      (by rw [MakeChecks.laidMetH_plain _ _ _ (by kernel_rfl)]; exact laidMet_laidAll _ (by kernel_rfl) (by kernel_rfl))) ?_
  intro W base args ds gs before hval hsh hW
  exact law_post (C := Tryz.checked) [.str] (by kernel_rfl) (by kernel_rfl) laidOut ⟨_, rfl, by kernel_rfl⟩ rfl
    (fun ds h => by match ds, h with | [d], _ => rfl) law W base args ds gs before hval (globOk_of (by kernel_rfl) hsh) hW

theorem holds : Rows.TrigsParsesSaid :=
  OpenClaim.holds_of_wide 5 Tryz.f5 rfl rfl rfl rfl rfl rfl rfl ⟨rfl, rfl, rfl, rfl, rfl⟩ rfl rfl rfl rfl rfl (by kernel_rfl) Tryz.func5 (by kernel_rfl)
    (of_decide_eq_true (by kernel_rfl)) (by unfold Func.isWrapper; first | (rw [if_pos (by decide +kernel)]; kernel_rfl) | (rw [if_neg (by decide +kernel)]; exact ⟨rfl, rfl⟩))
    (fun os started H enc _ => lifted os started H enc)
end Go.Proofs.YtjdjmbogopadaaaGreatDoor.trigsParses
namespace Go.Proofs.YtjdjmbogopadaaaGreatDoor
open Go

/-- The statement. -/
theorem trigsParses_card : Rows.TrigsParsesCardSaid :=
  Claim7.holds_tied_plain_at .later [] [.data, .pinned] true (true, "29887b69fa43d08a6d86f2bf212253a78293e49b7d0f6f08eadb5464682d6e64") false trigsParses.holds (fun _ h => by cases h) (by kernel_rfl) (fun _ h => by cases h) trigsParses_row_tie rfl ⟨rfl, rfl⟩ (by kernel_rfl) rfl
    (fun f fn hf hfn => by
      obtain rfl : f = 5 := Option.some.inj ((show Tryz.prog.funcNamed "cellarer/cellarerlaw12.TrigsParses" = some 5 by kernel_rfl).symm.trans hf) |>.symm
      obtain rfl : fn = Tryz.f5 := (Option.some.inj (Tryz.func5.symm.trans hfn)).symm
      exact ⟨by kernel_rfl, fun j t ht => by
        have hm : t ∈ Tryz.f5.params.toList := by simpa using Array.mem_of_getElem? ht
        have hall : (Tryz.f5.params.toList.all fun u => !Tryz.prog.wantsStandIn u) = true := by kernel_rfl
        exact (show Tryz.prog.wantsStandIn t = false by simpa using List.all_eq_true.1 hall t hm)⟩)
    (by kernel_rfl)
#print axioms trigsParses_card
end Go.Proofs.YtjdjmbogopadaaaGreatDoor
