/-
  DERIVED. GIVEN WITH THE SEED: THE CARDS: each row of YtapfjjbgcfnnmaaDoorRows.lean that lists a variable, with what it lists TIED to the program's text (the seventh form; the later family's looks); each row that meets fmt, with fmt's text TOLD by the authors' own Lean function (tested against real Go, not proved from fmt's source: count such statements apart). THE CARD IS WHAT COUNTS. Prove the row's statement (the work); the ties are given (YtapfjjbgcfnnmaaDoorTie.lean); close each card by the builder's one call (the guide's Derived/Test/ToyasCard.lean, 'card_holds'). Laid BY PROGRAM, IN A SANDBOX (cutbox-door.mjs). By AI agents, Wed Nov 11 2026. No macro, syntax, notation, axiom, sorry.
-/
import Derived.Test.YtapfjjbgcfnnmaaDoorRows
import GoSem.ClaimSeven
namespace Go.Proofs.YtapfjjbgcfnnmaaDoor
namespace Rows

/-- THE TIED CARD OF 'cellarerlaw20.CheckNeeds'. -/
def checkNeedsCard : Claim7 := { stood := { row := checkNeedsRow, standIns := [], harness := (true, "b70c2a075e04f10406729d31433165fc672cbfab863f0857157d8eac8eda93d3"), looks := false }, kinds := [], alts := [], laidByText := true, laidKinds := [.data, .pinned], laidTests := true, laidLooks := .later }
def CheckNeedsCardSaid : Prop := Claim7.holds Tryd.pinned (.plain (OpenSpec.ofChange checkNeedsSpec)) checkNeedsCard

/-- THE TIED CARD OF 'cellarerlaw20.CheckConflicts'. -/
def checkConflictsCard : Claim7 := { stood := { row := checkConflictsRow, standIns := [], harness := (true, "b70c2a075e04f10406729d31433165fc672cbfab863f0857157d8eac8eda93d3"), looks := false }, kinds := [], alts := [], laidByText := true, laidKinds := [.data, .pinned], laidTests := true, laidLooks := .later }
def CheckConflictsCardSaid : Prop := Claim7.holds Tryd.pinned (.plain (OpenSpec.ofChange checkConflictsSpec)) checkConflictsCard

/-- THE SECOND FORM's CARD OF 'cellarerlaw20.CheckNeeds'. -/
def checkNeedsUptoCard : Claim7 := { stood := { row := checkNeedsUptoRow, standIns := [], harness := (true, "b70c2a075e04f10406729d31433165fc672cbfab863f0857157d8eac8eda93d3"), looks := false }, kinds := [], alts := [], laidByText := true, laidKinds := [.data, .pinned], laidTests := true, laidLooks := .later }
def CheckNeedsUptoCardSaid : Prop := Claim7.holds Tryd.pinned (.plain (OpenSpec.upto checkNeedsSpec)) checkNeedsUptoCard

/-- THE SECOND FORM's CARD OF 'cellarerlaw20.CheckConflicts'. -/
def checkConflictsUptoCard : Claim7 := { stood := { row := checkConflictsUptoRow, standIns := [], harness := (true, "b70c2a075e04f10406729d31433165fc672cbfab863f0857157d8eac8eda93d3"), looks := false }, kinds := [], alts := [], laidByText := true, laidKinds := [.data, .pinned], laidTests := true, laidLooks := .later }
def CheckConflictsUptoCardSaid : Prop := Claim7.holds Tryd.pinned (.plain (OpenSpec.upto checkConflictsSpec)) checkConflictsUptoCard
end Rows
end Go.Proofs.YtapfjjbgcfnnmaaDoor
