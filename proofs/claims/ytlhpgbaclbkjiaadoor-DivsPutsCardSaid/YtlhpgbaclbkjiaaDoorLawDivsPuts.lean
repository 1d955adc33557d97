/-
  PROVED: the given law 'cellarer/cellarerlaw09.DivsPuts' returns true for every input that fits its parameters' types, and its arguments read behind the call as they read before. Condition: the package-level variables that the row lists start as the program's text lays them (the card ties them).
-/
import Derived.Test.YtlhpgbaclbkjiaaDoorAbs25
import Derived.Test.YtlhpgbaclbkjiaaDoorCon9b
import Derived.Test.YtlhpgbaclbkjiaaDoorPl9p
import Derived.Test.YtlhpgbaclbkjiaaDoorRows
import Derived.Test.YtlhpgbaclbkjiaaDoorTie
import Derived.Test.YtlhpgbaclbkjiaaDoorCards
import Derived.WalkKit
import Derived.ProofKit
import Derived.Lay
import Derived.LaidOnce
import Derived.SevenTiedAt
namespace Go.Proofs.YtlhpgbaclbkjiaaDoor.divsPuts
open Go Go.Cellar Go.ChangeShapes Go.WideShapes Go.ChangeAt Go.RowKit
set_option linter.unusedVariables false
theorem own : ownKnob Tryd.prog.godebug = none := by kernel_rfl
theorem laidOut : laidOutB Tryd.prog = true := by kernel_rfl
theorem law (xs : Args [.list (.prod .str (.prod .str .str)), (.prod .str (.prod .str .str)), .str]) (h : argsFit [.list (.prod .str (.prod .str .str)), (.prod .str (.prod .str .str)), .str] xs) : Con Tryd.prog 7 (argAVs [.list (.prod .str (.prod .str .str)), (.prod .str (.prod .str .str)), .str] xs) [] (.bool true) [] :=
  cellarerlaw09_DivsPuts_con (DivsPuts_true xs.1 xs.2.1.1 xs.2.1.2.1 xs.2.1.2.2 xs.2.2.1)

set_option maxRecDepth 100000 in
theorem lifted (os : Os) (started : os.Started) (H : Type) (enc : TypeId × Value → H) :
    ReturnsInHanded {} Tryd.checked os 7 .any (fun w args => (Rows.divsPutsSpec.pre enc Tryd.prog Tryd.f7 [] false w args ∧ laidMetH Tryd.prog Rows.divsPutsRow.laid w) ∧ sizedMet enc Tryd.prog Tryd.f7 (OpenSpec.ofChange Rows.divsPutsSpec) false w args)
      (Rows.divsPutsSpec.post enc Tryd.prog Tryd.f7 false true false false) := by
  refine returns_shaped (C := Tryd.checked) (X := fun w _ => laidMetH Tryd.prog Rows.divsPutsRow.laid w) (fun _ _ _ hh h => h.of_heap hh) own started (by kernel_rfl) Tryd.func7
    (ChangeSpec.witness_shaped (enc := enc) (C := Tryd.checked) (os := os) (X := fun w _ => laidMetH Tryd.prog Rows.divsPutsRow.laid w) false (World.laidAll Tryd.prog os Rows.divsPutsRow.laid) #[.slice none 0 0, .agg #[.string ByteArray.empty, .string ByteArray.empty, .string ByteArray.empty], .string ByteArray.empty] 8 (World.laidAll_os _ _ _)
      (World.shaped_of_ZipB (by kernel_rfl) (by kernel_rfl)) (by kernel_rfl) (by kernel_rfl) (by kernel_rfl)
      (by rw [MakeChecks.laidMetH_plain _ _ _ (by kernel_rfl)]; exact laidMet_laidAll _ (by kernel_rfl) (by kernel_rfl))) ?_
  intro W base args ds gs before hval hsh hW
  exact law_post (C := Tryd.checked) [.list (.prod .str (.prod .str .str)), (.prod .str (.prod .str .str)), .str] (by kernel_rfl) (by kernel_rfl) laidOut ⟨_, rfl, by kernel_rfl⟩ rfl
    (fun ds h => by match ds, h with | [d1, d2, d3], _ => rfl) law W base args ds gs before hval (globOk_of (by kernel_rfl) hsh) hW

theorem holds : Rows.DivsPutsSaid :=
  OpenClaim.holds_of_wide 7 Tryd.f7 rfl rfl rfl rfl rfl rfl rfl ⟨rfl, rfl, rfl, rfl, rfl⟩ rfl rfl rfl rfl rfl (by kernel_rfl) Tryd.func7 (by kernel_rfl)
    (of_decide_eq_true (by kernel_rfl)) (by unfold Func.isWrapper; first | (rw [if_pos (by decide +kernel)]; kernel_rfl) | (rw [if_neg (by decide +kernel)]; exact ⟨rfl, rfl⟩))
    (fun os started H enc _ => lifted os started H enc)
end Go.Proofs.YtlhpgbaclbkjiaaDoor.divsPuts
namespace Go.Proofs.YtlhpgbaclbkjiaaDoor
open Go

/-- The statement. -/
theorem divsPuts_card : Rows.DivsPutsCardSaid :=
  Claim7.holds_tied_plain_at .later [] [.data, .pinned] true (true, "cc4de23674a2a9e33764cb5fbf228c16a5b77bd66e83c9ff20df498128ec5050") false divsPuts.holds (fun _ h => by cases h) (by kernel_rfl) (fun _ h => by cases h) divsPuts_row_tie rfl ⟨rfl, rfl⟩ (by kernel_rfl) rfl
    (fun f fn hf hfn => by
      obtain rfl : f = 7 := Option.some.inj ((show Tryd.prog.funcNamed "cellarer/cellarerlaw09.DivsPuts" = some 7 by kernel_rfl).symm.trans hf) |>.symm
      obtain rfl : fn = Tryd.f7 := (Option.some.inj (Tryd.func7.symm.trans hfn)).symm
      exact ⟨by kernel_rfl, fun j t ht => by
        have hm : t ∈ Tryd.f7.params.toList := by simpa using Array.mem_of_getElem? ht
        have hall : (Tryd.f7.params.toList.all fun u => !Tryd.prog.wantsStandIn u) = true := by kernel_rfl
        exact (show Tryd.prog.wantsStandIn t = false by simpa using List.all_eq_true.1 hall t hm)⟩)
    (by kernel_rfl)
#print axioms divsPuts_card
end Go.Proofs.YtlhpgbaclbkjiaaDoor
