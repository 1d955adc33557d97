/-
  DERIVED. GIVEN WITH THE SEED: THE CARDS: each row of YtjdjmbogopadaaaGreatDoorRows.lean that lists a variable, with what it lists TIED to the program's text (the seventh form; the later family's looks); each row that meets fmt, with fmt's text TOLD by the authors' own Lean function (tested against real Go, not proved from fmt's source: count such statements apart). THE CARD IS WHAT COUNTS. Prove the row's statement (the work); the ties are given (YtjdjmbogopadaaaGreatDoorTie.lean); close each card by the builder's one call (the guide's Derived/Test/ToyasCard.lean, 'card_holds'). Laid BY PROGRAM, IN A SANDBOX (cutbox-door.mjs). By AI agents, Wed Nov 11 2026. No macro, syntax, notation, axiom, sorry.
-/
import Derived.Test.YtjdjmbogopadaaaGreatDoorRows
import GoSem.ClaimSeven
namespace Go.Proofs.YtjdjmbogopadaaaGreatDoor
namespace Rows

/-- THE TIED CARD OF 'cellarerlaw12.TrigsPrints'. -/
def trigsPrintsCard : Claim7 := { stood := { row := trigsPrintsRow, standIns := [], harness := (true, "29887b69fa43d08a6d86f2bf212253a78293e49b7d0f6f08eadb5464682d6e64"), looks := false }, kinds := [], alts := [], laidByText := true, laidKinds := [.data, .pinned], laidTests := true, laidLooks := .later }
def TrigsPrintsCardSaid : Prop := Claim7.holds Tryz.pinned (.plain (OpenSpec.ofChange trigsPrintsSpec)) trigsPrintsCard

/-- THE TIED CARD OF 'cellarerlaw12.TrigsFired'. -/
def trigsFiredCard : Claim7 := { stood := { row := trigsFiredRow, standIns := [], harness := (true, "29887b69fa43d08a6d86f2bf212253a78293e49b7d0f6f08eadb5464682d6e64"), looks := false }, kinds := [], alts := [], laidByText := true, laidKinds := [.data, .pinned], laidTests := true, laidLooks := .later }
def TrigsFiredCardSaid : Prop := Claim7.holds Tryz.pinned (.plain (OpenSpec.ofChange trigsFiredSpec)) trigsFiredCard

/-- THE TIED CARD OF 'cellarerlaw12.TrigsParses'. -/
def trigsParsesCard : Claim7 := { stood := { row := trigsParsesRow, standIns := [], harness := (true, "29887b69fa43d08a6d86f2bf212253a78293e49b7d0f6f08eadb5464682d6e64"), looks := false }, kinds := [], alts := [], laidByText := true, laidKinds := [.data, .pinned], laidTests := true, laidLooks := .later }
def TrigsParsesCardSaid : Prop := Claim7.holds Tryz.pinned (.plain (OpenSpec.ofChange trigsParsesSpec)) trigsParsesCard

/-- THE TIED CARD OF 'cellarerlaw12.TrigsSets'. -/
def trigsSetsCard : Claim7 := { stood := { row := trigsSetsRow, standIns := [], harness := (true, "29887b69fa43d08a6d86f2bf212253a78293e49b7d0f6f08eadb5464682d6e64"), looks := false }, kinds := [], alts := [], laidByText := true, laidKinds := [.data, .pinned], laidTests := true, laidLooks := .later }
def TrigsSetsCardSaid : Prop := Claim7.holds Tryz.pinned (.plain (OpenSpec.ofChange trigsSetsSpec)) trigsSetsCard

/-- THE SECOND FORM's CARD OF 'cellarerlaw12.TrigsPrints'. -/
def trigsPrintsUptoCard : Claim7 := { stood := { row := trigsPrintsUptoRow, standIns := [], harness := (true, "29887b69fa43d08a6d86f2bf212253a78293e49b7d0f6f08eadb5464682d6e64"), looks := false }, kinds := [], alts := [], laidByText := true, laidKinds := [.data, .pinned], laidTests := true, laidLooks := .later }
def TrigsPrintsUptoCardSaid : Prop := Claim7.holds Tryz.pinned (.plain (OpenSpec.upto trigsPrintsSpec)) trigsPrintsUptoCard

/-- THE SECOND FORM's CARD OF 'cellarerlaw12.TrigsFired'. -/
def trigsFiredUptoCard : Claim7 := { stood := { row := trigsFiredUptoRow, standIns := [], harness := (true, "29887b69fa43d08a6d86f2bf212253a78293e49b7d0f6f08eadb5464682d6e64"), looks := false }, kinds := [], alts := [], laidByText := true, laidKinds := [.data, .pinned], laidTests := true, laidLooks := .later }
def TrigsFiredUptoCardSaid : Prop := Claim7.holds Tryz.pinned (.plain (OpenSpec.upto trigsFiredSpec)) trigsFiredUptoCard

/-- THE SECOND FORM's CARD OF 'cellarerlaw12.TrigsParses'. -/
def trigsParsesUptoCard : Claim7 := { stood := { row := trigsParsesUptoRow, standIns := [], harness := (true, "29887b69fa43d08a6d86f2bf212253a78293e49b7d0f6f08eadb5464682d6e64"), looks := false }, kinds := [], alts := [], laidByText := true, laidKinds := [.data, .pinned], laidTests := true, laidLooks := .later }
def TrigsParsesUptoCardSaid : Prop := Claim7.holds Tryz.pinned (.plain (OpenSpec.upto trigsParsesSpec)) trigsParsesUptoCard

/-- THE SECOND FORM's CARD OF 'cellarerlaw12.TrigsSets'. -/
def trigsSetsUptoCard : Claim7 := { stood := { row := trigsSetsUptoRow, standIns := [], harness := (true, "29887b69fa43d08a6d86f2bf212253a78293e49b7d0f6f08eadb5464682d6e64"), looks := false }, kinds := [], alts := [], laidByText := true, laidKinds := [.data, .pinned], laidTests := true, laidLooks := .later }
def TrigsSetsUptoCardSaid : Prop := Claim7.holds Tryz.pinned (.plain (OpenSpec.upto trigsSetsSpec)) trigsSetsUptoCard
end Rows
end Go.Proofs.YtjdjmbogopadaaaGreatDoor
