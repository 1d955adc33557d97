/-
  DERIVED. GIVEN WITH THE SEED: THE CARDS: each row of YtblmgbbablmedaaDoorRows.lean that lists a variable, with what it lists TIED to the program's text (the seventh form; the later family's looks); each row that meets fmt, with fmt's text TOLD by the authors' own Lean function (tested against real Go, not proved from fmt's source: count such statements apart). THE CARD IS WHAT COUNTS. Prove the row's statement (the work); the ties are given (YtblmgbbablmedaaDoorTie.lean); close each card by the builder's one call (the guide's Derived/Test/ToyasCard.lean, 'card_holds'). Laid BY PROGRAM, IN A SANDBOX (cutbox-door.mjs). By AI agents, Wed Nov 11 2026. No macro, syntax, notation, axiom, sorry.
-/
import Derived.Test.YtblmgbbablmedaaDoorRows
import GoSem.ClaimSeven
namespace Go.Proofs.YtblmgbbablmedaaDoor
namespace Rows

/-- THE TIED CARD OF 'cellarerlaw10.OversPrints'. -/
def oversPrintsCard : Claim7 := { stood := { row := oversPrintsRow, standIns := [], harness := (true, "8b261002d61be9205a992d30c56b5e4946f7eb010883d1c35d55744231b68c3c"), looks := false }, kinds := [], alts := [], laidByText := true, laidKinds := [.data, .pinned], laidTests := true, laidLooks := .later }
def OversPrintsCardSaid : Prop := Claim7.holds Tryd.pinned (.plain (OpenSpec.ofChange oversPrintsSpec)) oversPrintsCard

/-- THE TIED CARD OF 'cellarerlaw10.OversParses'. -/
def oversParsesCard : Claim7 := { stood := { row := oversParsesRow, standIns := [], harness := (true, "8b261002d61be9205a992d30c56b5e4946f7eb010883d1c35d55744231b68c3c"), looks := false }, kinds := [], alts := [], laidByText := true, laidKinds := [.data, .pinned], laidTests := true, laidLooks := .later }
def OversParsesCardSaid : Prop := Claim7.holds Tryd.pinned (.plain (OpenSpec.ofChange oversParsesSpec)) oversParsesCard

/-- THE TIED CARD OF 'cellarerlaw10.OversMetas'. -/
def oversMetasCard : Claim7 := { stood := { row := oversMetasRow, standIns := [], harness := (true, "8b261002d61be9205a992d30c56b5e4946f7eb010883d1c35d55744231b68c3c"), looks := false }, kinds := [], alts := [], laidByText := true, laidKinds := [.data, .pinned], laidTests := true, laidLooks := .later }
def OversMetasCardSaid : Prop := Claim7.holds Tryd.pinned (.plain (OpenSpec.ofChange oversMetasSpec)) oversMetasCard

/-- THE TIED CARD OF 'cellarerlaw10.OversPuts'. -/
def oversPutsCard : Claim7 := { stood := { row := oversPutsRow, standIns := [], harness := (true, "8b261002d61be9205a992d30c56b5e4946f7eb010883d1c35d55744231b68c3c"), looks := false }, kinds := [], alts := [], laidByText := true, laidKinds := [.data, .pinned], laidTests := true, laidLooks := .later }
def OversPutsCardSaid : Prop := Claim7.holds Tryd.pinned (.plain (OpenSpec.ofChange oversPutsSpec)) oversPutsCard

/-- THE SECOND FORM's CARD OF 'cellarerlaw10.OversPrints'. -/
def oversPrintsUptoCard : Claim7 := { stood := { row := oversPrintsUptoRow, standIns := [], harness := (true, "8b261002d61be9205a992d30c56b5e4946f7eb010883d1c35d55744231b68c3c"), looks := false }, kinds := [], alts := [], laidByText := true, laidKinds := [.data, .pinned], laidTests := true, laidLooks := .later }
def OversPrintsUptoCardSaid : Prop := Claim7.holds Tryd.pinned (.plain (OpenSpec.upto oversPrintsSpec)) oversPrintsUptoCard

/-- THE SECOND FORM's CARD OF 'cellarerlaw10.OversParses'. -/
def oversParsesUptoCard : Claim7 := { stood := { row := oversParsesUptoRow, standIns := [], harness := (true, "8b261002d61be9205a992d30c56b5e4946f7eb010883d1c35d55744231b68c3c"), looks := false }, kinds := [], alts := [], laidByText := true, laidKinds := [.data, .pinned], laidTests := true, laidLooks := .later }
def OversParsesUptoCardSaid : Prop := Claim7.holds Tryd.pinned (.plain (OpenSpec.upto oversParsesSpec)) oversParsesUptoCard

/-- THE SECOND FORM's CARD OF 'cellarerlaw10.OversMetas'. -/
def oversMetasUptoCard : Claim7 := { stood := { row := oversMetasUptoRow, standIns := [], harness := (true, "8b261002d61be9205a992d30c56b5e4946f7eb010883d1c35d55744231b68c3c"), looks := false }, kinds := [], alts := [], laidByText := true, laidKinds := [.data, .pinned], laidTests := true, laidLooks := .later }
def OversMetasUptoCardSaid : Prop := Claim7.holds Tryd.pinned (.plain (OpenSpec.upto oversMetasSpec)) oversMetasUptoCard

/-- THE SECOND FORM's CARD OF 'cellarerlaw10.OversPuts'. -/
def oversPutsUptoCard : Claim7 := { stood := { row := oversPutsUptoRow, standIns := [], harness := (true, "8b261002d61be9205a992d30c56b5e4946f7eb010883d1c35d55744231b68c3c"), looks := false }, kinds := [], alts := [], laidByText := true, laidKinds := [.data, .pinned], laidTests := true, laidLooks := .later }
def OversPutsUptoCardSaid : Prop := Claim7.holds Tryd.pinned (.plain (OpenSpec.upto oversPutsSpec)) oversPutsUptoCard
end Rows
end Go.Proofs.YtblmgbbablmedaaDoor
