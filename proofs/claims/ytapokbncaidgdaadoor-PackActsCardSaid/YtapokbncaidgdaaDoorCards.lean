/-
  DERIVED. GIVEN WITH THE SEED: THE CARDS: each row of YtapokbncaidgdaaDoorRows.lean that lists a variable, with what it lists TIED to the program's text (the seventh form; the later family's looks); each row that meets fmt, with fmt's text TOLD by the authors' own Lean function (tested against real Go, not proved from fmt's source: count such statements apart). THE CARD IS WHAT COUNTS. Prove the row's statement (the work); the ties are given (YtapokbncaidgdaaDoorTie.lean); close each card by the builder's one call (the guide's Derived/Test/ToyasCard.lean, 'card_holds'). Laid BY PROGRAM, IN A SANDBOX (cutbox-door.mjs). By AI agents, Wed Nov 11 2026. No macro, syntax, notation, axiom, sorry.
-/
import Derived.Test.YtapokbncaidgdaaDoorRows
import GoSem.ClaimSeven
namespace Go.Proofs.YtapokbncaidgdaaDoor
namespace Rows

/-- THE TIED CARD OF 'cellarerlaw19.PackReserved'. -/
def packReservedCard : Claim7 := { stood := { row := packReservedRow, standIns := [], harness := (true, "1c28627cb94c127bd28fa3f4f7e9b08206651a66a67bd2a6fd3f99ae2b8752bb"), looks := false }, kinds := [], alts := [], laidByText := true, laidKinds := [.data, .pinned], laidTests := true, laidLooks := .later }
def PackReservedCardSaid : Prop := Claim7.holds Tryd.pinned (.plain (OpenSpec.ofChange packReservedSpec)) packReservedCard

/-- THE TIED CARD OF 'cellarerlaw19.PackActs'. -/
def packActsCard : Claim7 := { stood := { row := packActsRow, standIns := [], harness := (true, "1c28627cb94c127bd28fa3f4f7e9b08206651a66a67bd2a6fd3f99ae2b8752bb"), looks := false }, kinds := [], alts := [], laidByText := true, laidKinds := [.data, .pinned], laidTests := true, laidLooks := .later }
def PackActsCardSaid : Prop := Claim7.holds Tryd.pinned (.plain (OpenSpec.ofChange packActsSpec)) packActsCard

/-- THE SECOND FORM's CARD OF 'cellarerlaw19.PackReserved'. -/
def packReservedUptoCard : Claim7 := { stood := { row := packReservedUptoRow, standIns := [], harness := (true, "1c28627cb94c127bd28fa3f4f7e9b08206651a66a67bd2a6fd3f99ae2b8752bb"), looks := false }, kinds := [], alts := [], laidByText := true, laidKinds := [.data, .pinned], laidTests := true, laidLooks := .later }
def PackReservedUptoCardSaid : Prop := Claim7.holds Tryd.pinned (.plain (OpenSpec.upto packReservedSpec)) packReservedUptoCard

/-- THE SECOND FORM's CARD OF 'cellarerlaw19.PackActs'. -/
def packActsUptoCard : Claim7 := { stood := { row := packActsUptoRow, standIns := [], harness := (true, "1c28627cb94c127bd28fa3f4f7e9b08206651a66a67bd2a6fd3f99ae2b8752bb"), looks := false }, kinds := [], alts := [], laidByText := true, laidKinds := [.data, .pinned], laidTests := true, laidLooks := .later }
def PackActsUptoCardSaid : Prop := Claim7.holds Tryd.pinned (.plain (OpenSpec.upto packActsSpec)) packActsUptoCard
end Rows
end Go.Proofs.YtapokbncaidgdaaDoor
