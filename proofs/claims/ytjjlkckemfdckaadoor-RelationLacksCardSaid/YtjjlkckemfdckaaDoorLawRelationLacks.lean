/-
  PROVED: the given law 'cellarer/cellarerlaw07.RelationLacks' returns true for every input that fits its parameters' types, and its arguments read behind the call as they read before. Condition: the package-level variables that the row lists start as the program's text lays them (the card ties them).
-/
import Derived.Test.YtjjlkckemfdckaaDoorAbs25
import Derived.Test.YtjjlkckemfdckaaDoorCon7b
import Derived.Test.YtjjlkckemfdckaaDoorPl7z
import Derived.Test.YtjjlkckemfdckaaDoorRows
import Derived.Test.YtjjlkckemfdckaaDoorTie
import Derived.Test.YtjjlkckemfdckaaDoorCards
import Derived.WalkKit
import Derived.ProofKit
import Derived.Lay
import Derived.LaidOnce
import Derived.SevenTiedAt
namespace Go.Proofs.YtjjlkckemfdckaaDoor.relationLacks
open Go Go.Cellar Go.ChangeShapes Go.WideShapes Go.ChangeAt Go.RowKit
set_option linter.unusedVariables false
theorem own : ownKnob Tryd.prog.godebug = none := by kernel_rfl
theorem laidOut : laidOutB Tryd.prog = true := by kernel_rfl
theorem law (xs : Args [.list (.list (.prod .str (.prod .str .str))), .list (.prod .str (.prod .str .str)), .prod .str (.prod .str .str)]) (h : argsFit [.list (.list (.prod .str (.prod .str .str))), .list (.prod .str (.prod .str .str)), .prod .str (.prod .str .str)] xs) : Con Tryd.prog 5 (argAVs [.list (.list (.prod .str (.prod .str .str))), .list (.prod .str (.prod .str .str)), .prod .str (.prod .str .str)] xs) [] (.bool true) [] :=
  cellarerlaw07_RelationLacks_con (RelationLacks_true xs.1 xs.2.1 xs.2.2.1.1 xs.2.2.1.2.1 xs.2.2.1.2.2)

set_option maxRecDepth 100000 in
theorem lifted (os : Os) (started : os.Started) (H : Type) (enc : TypeId × Value → H) :
    ReturnsInHanded {} Tryd.checked os 5 .any (fun w args => (Rows.relationLacksSpec.pre enc Tryd.prog Tryd.f5 [] false w args ∧ laidMetH Tryd.prog Rows.relationLacksRow.laid w) ∧ sizedMet enc Tryd.prog Tryd.f5 (OpenSpec.ofChange Rows.relationLacksSpec) false w args)
      (Rows.relationLacksSpec.post enc Tryd.prog Tryd.f5 false true false false) := by
  refine returns_shaped (C := Tryd.checked) (X := fun w _ => laidMetH Tryd.prog Rows.relationLacksRow.laid w) (fun _ _ _ hh h => h.of_heap hh) own started (by kernel_rfl) Tryd.func5
    (ChangeSpec.witness_shaped (enc := enc) (C := Tryd.checked) (os := os) (X := fun w _ => laidMetH Tryd.prog Rows.relationLacksRow.laid w) false (World.laidAll Tryd.prog os Rows.relationLacksRow.laid) #[.slice none 0 0, .slice none 0 0, .agg #[.string ByteArray.empty, .string ByteArray.empty, .string ByteArray.empty]] 8 (World.laidAll_os _ _ _)
      (World.shaped_of_ZipB (by kernel_rfl) (by kernel_rfl)) (by kernel_rfl) (by kernel_rfl) (by kernel_rfl)
      (by rw [MakeChecks.laidMetH_plain _ _ _ (by kernel_rfl)]; exact laidMet_laidAll _ (by kernel_rfl) (by kernel_rfl))) ?_
  intro W base args ds gs before hval hsh hW
  exact law_post (C := Tryd.checked) [.list (.list (.prod .str (.prod .str .str))), .list (.prod .str (.prod .str .str)), .prod .str (.prod .str .str)] (by kernel_rfl) (by kernel_rfl) laidOut ⟨_, rfl, by kernel_rfl⟩ rfl
    (fun ds h => by match ds, h with | [d1, d2, d3], _ => rfl) law W base args ds gs before hval (globOk_of (by kernel_rfl) hsh) hW

theorem holds : Rows.RelationLacksSaid :=
  OpenClaim.holds_of_wide 5 Tryd.f5 rfl rfl rfl rfl rfl rfl rfl ⟨rfl, rfl, rfl, rfl, rfl⟩ rfl rfl rfl rfl rfl (by kernel_rfl) Tryd.func5 (by kernel_rfl)
    (of_decide_eq_true (by kernel_rfl)) (by unfold Func.isWrapper; first | (rw [if_pos (by decide +kernel)]; kernel_rfl) | (rw [if_neg (by decide +kernel)]; exact ⟨rfl, rfl⟩))
    (fun os started H enc _ => lifted os started H enc)
end Go.Proofs.YtjjlkckemfdckaaDoor.relationLacks
namespace Go.Proofs.YtjjlkckemfdckaaDoor
open Go

/-- The statement. -/
theorem relationLacks_card : Rows.RelationLacksCardSaid :=
  Claim7.holds_tied_plain_at .later [] [.data, .pinned] true (true, "1fb72f27bcb9d5c403cd239d5b83ca1f03dcb711bdac63f297256dfa891e5018") false relationLacks.holds (fun _ h => by cases h) (by kernel_rfl) (fun _ h => by cases h) relationLacks_row_tie rfl ⟨rfl, rfl⟩ (by kernel_rfl) rfl
    (fun f fn hf hfn => by
      obtain rfl : f = 5 := Option.some.inj ((show Tryd.prog.funcNamed "cellarer/cellarerlaw07.RelationLacks" = some 5 by kernel_rfl).symm.trans hf) |>.symm
      obtain rfl : fn = Tryd.f5 := (Option.some.inj (Tryd.func5.symm.trans hfn)).symm
      exact ⟨by kernel_rfl, fun j t ht => by
        have hm : t ∈ Tryd.f5.params.toList := by simpa using Array.mem_of_getElem? ht
        have hall : (Tryd.f5.params.toList.all fun u => !Tryd.prog.wantsStandIn u) = true := by kernel_rfl
        exact (show Tryd.prog.wantsStandIn t = false by simpa using List.all_eq_true.1 hall t hm)⟩)
    (by kernel_rfl)
#print axioms relationLacks_card
end Go.Proofs.YtjjlkckemfdckaaDoor
