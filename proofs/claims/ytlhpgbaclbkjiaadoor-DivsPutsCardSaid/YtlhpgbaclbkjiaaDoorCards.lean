/-
  DERIVED. GIVEN WITH THE SEED: THE CARDS: each row of YtlhpgbaclbkjiaaDoorRows.lean that lists a variable, with what it lists TIED to the program's text (the seventh form; the later family's looks); each row that meets fmt, with fmt's text TOLD by the authors' own Lean function (tested against real Go, not proved from fmt's source: count such statements apart). THE CARD IS WHAT COUNTS. Prove the row's statement (the work); the ties are given (YtlhpgbaclbkjiaaDoorTie.lean); close each card by the builder's one call (the guide's Derived/Test/ToyasCard.lean, 'card_holds'). Laid BY PROGRAM, IN A SANDBOX (cutbox-door.mjs). By AI agents, Wed Nov 11 2026. No macro, syntax, notation, axiom, sorry.
-/
import Derived.Test.YtlhpgbaclbkjiaaDoorRows
import GoSem.ClaimSeven
namespace Go.Proofs.YtlhpgbaclbkjiaaDoor
namespace Rows

/-- THE TIED CARD OF 'cellarerlaw09.DivsPrints'. -/
def divsPrintsCard : Claim7 := { stood := { row := divsPrintsRow, standIns := [], harness := (true, "cc4de23674a2a9e33764cb5fbf228c16a5b77bd66e83c9ff20df498128ec5050"), looks := false }, kinds := [], alts := [], laidByText := true, laidKinds := [.data, .pinned], laidTests := true, laidLooks := .later }
def DivsPrintsCardSaid : Prop := Claim7.holds Tryd.pinned (.plain (OpenSpec.ofChange divsPrintsSpec)) divsPrintsCard

/-- THE TIED CARD OF 'cellarerlaw09.DivsParses'. -/
def divsParsesCard : Claim7 := { stood := { row := divsParsesRow, standIns := [], harness := (true, "cc4de23674a2a9e33764cb5fbf228c16a5b77bd66e83c9ff20df498128ec5050"), looks := false }, kinds := [], alts := [], laidByText := true, laidKinds := [.data, .pinned], laidTests := true, laidLooks := .later }
def DivsParsesCardSaid : Prop := Claim7.holds Tryd.pinned (.plain (OpenSpec.ofChange divsParsesSpec)) divsParsesCard

/-- THE TIED CARD OF 'cellarerlaw09.DivsTrue'. -/
def divsTrueCard : Claim7 := { stood := { row := divsTrueRow, standIns := [], harness := (true, "cc4de23674a2a9e33764cb5fbf228c16a5b77bd66e83c9ff20df498128ec5050"), looks := false }, kinds := [], alts := [], laidByText := true, laidKinds := [.data, .pinned], laidTests := true, laidLooks := .later }
def DivsTrueCardSaid : Prop := Claim7.holds Tryd.pinned (.plain (OpenSpec.ofChange divsTrueSpec)) divsTrueCard

/-- THE TIED CARD OF 'cellarerlaw09.DivsApart'. -/
def divsApartCard : Claim7 := { stood := { row := divsApartRow, standIns := [], harness := (true, "cc4de23674a2a9e33764cb5fbf228c16a5b77bd66e83c9ff20df498128ec5050"), looks := false }, kinds := [], alts := [], laidByText := true, laidKinds := [.data, .pinned], laidTests := true, laidLooks := .later }
def DivsApartCardSaid : Prop := Claim7.holds Tryd.pinned (.plain (OpenSpec.ofChange divsApartSpec)) divsApartCard

/-- THE TIED CARD OF 'cellarerlaw09.DivsPuts'. -/
def divsPutsCard : Claim7 := { stood := { row := divsPutsRow, standIns := [], harness := (true, "cc4de23674a2a9e33764cb5fbf228c16a5b77bd66e83c9ff20df498128ec5050"), looks := false }, kinds := [], alts := [], laidByText := true, laidKinds := [.data, .pinned], laidTests := true, laidLooks := .later }
def DivsPutsCardSaid : Prop := Claim7.holds Tryd.pinned (.plain (OpenSpec.ofChange divsPutsSpec)) divsPutsCard

/-- THE SECOND FORM's CARD OF 'cellarerlaw09.DivsPrints'. -/
def divsPrintsUptoCard : Claim7 := { stood := { row := divsPrintsUptoRow, standIns := [], harness := (true, "cc4de23674a2a9e33764cb5fbf228c16a5b77bd66e83c9ff20df498128ec5050"), looks := false }, kinds := [], alts := [], laidByText := true, laidKinds := [.data, .pinned], laidTests := true, laidLooks := .later }
def DivsPrintsUptoCardSaid : Prop := Claim7.holds Tryd.pinned (.plain (OpenSpec.upto divsPrintsSpec)) divsPrintsUptoCard

/-- THE SECOND FORM's CARD OF 'cellarerlaw09.DivsParses'. -/
def divsParsesUptoCard : Claim7 := { stood := { row := divsParsesUptoRow, standIns := [], harness := (true, "cc4de23674a2a9e33764cb5fbf228c16a5b77bd66e83c9ff20df498128ec5050"), looks := false }, kinds := [], alts := [], laidByText := true, laidKinds := [.data, .pinned], laidTests := true, laidLooks := .later }
def DivsParsesUptoCardSaid : Prop := Claim7.holds Tryd.pinned (.plain (OpenSpec.upto divsParsesSpec)) divsParsesUptoCard

/-- THE SECOND FORM's CARD OF 'cellarerlaw09.DivsTrue'. -/
def divsTrueUptoCard : Claim7 := { stood := { row := divsTrueUptoRow, standIns := [], harness := (true, "cc4de23674a2a9e33764cb5fbf228c16a5b77bd66e83c9ff20df498128ec5050"), looks := false }, kinds := [], alts := [], laidByText := true, laidKinds := [.data, .pinned], laidTests := true, laidLooks := .later }
def DivsTrueUptoCardSaid : Prop := Claim7.holds Tryd.pinned (.plain (OpenSpec.upto divsTrueSpec)) divsTrueUptoCard

/-- THE SECOND FORM's CARD OF 'cellarerlaw09.DivsApart'. -/
def divsApartUptoCard : Claim7 := { stood := { row := divsApartUptoRow, standIns := [], harness := (true, "cc4de23674a2a9e33764cb5fbf228c16a5b77bd66e83c9ff20df498128ec5050"), looks := false }, kinds := [], alts := [], laidByText := true, laidKinds := [.data, .pinned], laidTests := true, laidLooks := .later }
def DivsApartUptoCardSaid : Prop := Claim7.holds Tryd.pinned (.plain (OpenSpec.upto divsApartSpec)) divsApartUptoCard

/-- THE SECOND FORM's CARD OF 'cellarerlaw09.DivsPuts'. -/
def divsPutsUptoCard : Claim7 := { stood := { row := divsPutsUptoRow, standIns := [], harness := (true, "cc4de23674a2a9e33764cb5fbf228c16a5b77bd66e83c9ff20df498128ec5050"), looks := false }, kinds := [], alts := [], laidByText := true, laidKinds := [.data, .pinned], laidTests := true, laidLooks := .later }
def DivsPutsUptoCardSaid : Prop := Claim7.holds Tryd.pinned (.plain (OpenSpec.upto divsPutsSpec)) divsPutsUptoCard
end Rows
end Go.Proofs.YtlhpgbaclbkjiaaDoor
