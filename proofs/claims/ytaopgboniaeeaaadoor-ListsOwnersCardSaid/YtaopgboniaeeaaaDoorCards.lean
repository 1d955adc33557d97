/-
  DERIVED. GIVEN WITH THE SEED: THE CARDS: each row of YtaopgboniaeeaaaDoorRows.lean that lists a variable, with what it lists TIED to the program's text (the seventh form; the later family's looks); each row that meets fmt, with fmt's text TOLD by the authors' own Lean function (tested against real Go, not proved from fmt's source: count such statements apart). THE CARD IS WHAT COUNTS. Prove the row's statement (the work); the ties are given (YtaopgboniaeeaaaDoorTie.lean); close each card by the builder's one call (the guide's Derived/Test/ToyasCard.lean, 'card_holds'). Laid BY PROGRAM, IN A SANDBOX (cutbox-door.mjs). By AI agents, Wed Nov 11 2026. No macro, syntax, notation, axiom, sorry.
-/
import Derived.Test.YtaopgboniaeeaaaDoorRows
import GoSem.ClaimSeven
namespace Go.Proofs.YtaopgboniaeeaaaDoor
namespace Rows

/-- THE TIED CARD OF 'cellarerlaw13.ListsParses'. -/
def listsParsesCard : Claim7 := { stood := { row := listsParsesRow, standIns := [], harness := (true, "a6ef6782320f967fa23aa0d368b30ab883273d390045efdbbb6427fbf87191a4"), looks := false }, kinds := [], alts := [], laidByText := true, laidKinds := [.data, .pinned], laidTests := true, laidLooks := .later }
def ListsParsesCardSaid : Prop := Claim7.holds Tryd.pinned (.plain (OpenSpec.ofChange listsParsesSpec)) listsParsesCard

/-- THE TIED CARD OF 'cellarerlaw13.ListsPrints'. -/
def listsPrintsCard : Claim7 := { stood := { row := listsPrintsRow, standIns := [], harness := (true, "a6ef6782320f967fa23aa0d368b30ab883273d390045efdbbb6427fbf87191a4"), looks := false }, kinds := [], alts := [], laidByText := true, laidKinds := [.data, .pinned], laidTests := true, laidLooks := .later }
def ListsPrintsCardSaid : Prop := Claim7.holds Tryd.pinned (.plain (OpenSpec.ofChange listsPrintsSpec)) listsPrintsCard

/-- THE TIED CARD OF 'cellarerlaw13.ListsOwners'. -/
def listsOwnersCard : Claim7 := { stood := { row := listsOwnersRow, standIns := [], harness := (true, "a6ef6782320f967fa23aa0d368b30ab883273d390045efdbbb6427fbf87191a4"), looks := false }, kinds := [], alts := [], laidByText := true, laidKinds := [.data, .pinned], laidTests := true, laidLooks := .later }
def ListsOwnersCardSaid : Prop := Claim7.holds Tryd.pinned (.plain (OpenSpec.ofChange listsOwnersSpec)) listsOwnersCard

/-- THE TIED CARD OF 'cellarerlaw13.ListsPuts'. -/
def listsPutsCard : Claim7 := { stood := { row := listsPutsRow, standIns := [], harness := (true, "a6ef6782320f967fa23aa0d368b30ab883273d390045efdbbb6427fbf87191a4"), looks := false }, kinds := [], alts := [], laidByText := true, laidKinds := [.data, .pinned], laidTests := true, laidLooks := .later }
def ListsPutsCardSaid : Prop := Claim7.holds Tryd.pinned (.plain (OpenSpec.ofChange listsPutsSpec)) listsPutsCard

/-- THE SECOND FORM's CARD OF 'cellarerlaw13.ListsParses'. -/
def listsParsesUptoCard : Claim7 := { stood := { row := listsParsesUptoRow, standIns := [], harness := (true, "a6ef6782320f967fa23aa0d368b30ab883273d390045efdbbb6427fbf87191a4"), looks := false }, kinds := [], alts := [], laidByText := true, laidKinds := [.data, .pinned], laidTests := true, laidLooks := .later }
def ListsParsesUptoCardSaid : Prop := Claim7.holds Tryd.pinned (.plain (OpenSpec.upto listsParsesSpec)) listsParsesUptoCard

/-- THE SECOND FORM's CARD OF 'cellarerlaw13.ListsPrints'. -/
def listsPrintsUptoCard : Claim7 := { stood := { row := listsPrintsUptoRow, standIns := [], harness := (true, "a6ef6782320f967fa23aa0d368b30ab883273d390045efdbbb6427fbf87191a4"), looks := false }, kinds := [], alts := [], laidByText := true, laidKinds := [.data, .pinned], laidTests := true, laidLooks := .later }
def ListsPrintsUptoCardSaid : Prop := Claim7.holds Tryd.pinned (.plain (OpenSpec.upto listsPrintsSpec)) listsPrintsUptoCard

/-- THE SECOND FORM's CARD OF 'cellarerlaw13.ListsOwners'. -/
def listsOwnersUptoCard : Claim7 := { stood := { row := listsOwnersUptoRow, standIns := [], harness := (true, "a6ef6782320f967fa23aa0d368b30ab883273d390045efdbbb6427fbf87191a4"), looks := false }, kinds := [], alts := [], laidByText := true, laidKinds := [.data, .pinned], laidTests := true, laidLooks := .later }
def ListsOwnersUptoCardSaid : Prop := Claim7.holds Tryd.pinned (.plain (OpenSpec.upto listsOwnersSpec)) listsOwnersUptoCard

/-- THE SECOND FORM's CARD OF 'cellarerlaw13.ListsPuts'. -/
def listsPutsUptoCard : Claim7 := { stood := { row := listsPutsUptoRow, standIns := [], harness := (true, "a6ef6782320f967fa23aa0d368b30ab883273d390045efdbbb6427fbf87191a4"), looks := false }, kinds := [], alts := [], laidByText := true, laidKinds := [.data, .pinned], laidTests := true, laidLooks := .later }
def ListsPutsUptoCardSaid : Prop := Claim7.holds Tryd.pinned (.plain (OpenSpec.upto listsPutsSpec)) listsPutsUptoCard
end Rows
end Go.Proofs.YtaopgboniaeeaaaDoor
