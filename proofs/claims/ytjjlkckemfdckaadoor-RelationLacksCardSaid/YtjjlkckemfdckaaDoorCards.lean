/-
  DERIVED. GIVEN WITH THE SEED: THE CARDS: each row of YtjjlkckemfdckaaDoorRows.lean that lists a variable, with what it lists TIED to the program's text (the seventh form; the later family's looks); each row that meets fmt, with fmt's text TOLD by the authors' own Lean function (tested against real Go, not proved from fmt's source: count such statements apart). THE CARD IS WHAT COUNTS. Prove the row's statement (the work); the ties are given (YtjjlkckemfdckaaDoorTie.lean); close each card by the builder's one call (the guide's Derived/Test/ToyasCard.lean, 'card_holds'). Laid BY PROGRAM, IN A SANDBOX (cutbox-door.mjs). By AI agents, Wed Nov 11 2026. No macro, syntax, notation, axiom, sorry.
-/
import Derived.Test.YtjjlkckemfdckaaDoorRows
import GoSem.ClaimSeven
namespace Go.Proofs.YtjjlkckemfdckaaDoor
namespace Rows

/-- THE TIED CARD OF 'cellarerlaw07.RelationTexts'. -/
def relationTextsCard : Claim7 := { stood := { row := relationTextsRow, standIns := [], harness := (true, "1fb72f27bcb9d5c403cd239d5b83ca1f03dcb711bdac63f297256dfa891e5018"), looks := false }, kinds := [], alts := [], laidByText := true, laidKinds := [.data, .pinned], laidTests := true, laidLooks := .later }
def RelationTextsCardSaid : Prop := Claim7.holds Tryd.pinned (.plain (OpenSpec.ofChange relationTextsSpec)) relationTextsCard

/-- THE TIED CARD OF 'cellarerlaw07.RelationGroups'. -/
def relationGroupsCard : Claim7 := { stood := { row := relationGroupsRow, standIns := [], harness := (true, "1fb72f27bcb9d5c403cd239d5b83ca1f03dcb711bdac63f297256dfa891e5018"), looks := false }, kinds := [], alts := [], laidByText := true, laidKinds := [.data, .pinned], laidTests := true, laidLooks := .later }
def RelationGroupsCardSaid : Prop := Claim7.holds Tryd.pinned (.plain (OpenSpec.ofChange relationGroupsSpec)) relationGroupsCard

/-- THE TIED CARD OF 'cellarerlaw07.RelationLacks'. -/
def relationLacksCard : Claim7 := { stood := { row := relationLacksRow, standIns := [], harness := (true, "1fb72f27bcb9d5c403cd239d5b83ca1f03dcb711bdac63f297256dfa891e5018"), looks := false }, kinds := [], alts := [], laidByText := true, laidKinds := [.data, .pinned], laidTests := true, laidLooks := .later }
def RelationLacksCardSaid : Prop := Claim7.holds Tryd.pinned (.plain (OpenSpec.ofChange relationLacksSpec)) relationLacksCard

/-- THE TIED CARD OF 'cellarerlaw07.RelationParses'. -/
def relationParsesCard : Claim7 := { stood := { row := relationParsesRow, standIns := [], harness := (true, "1fb72f27bcb9d5c403cd239d5b83ca1f03dcb711bdac63f297256dfa891e5018"), looks := false }, kinds := [], alts := [], laidByText := true, laidKinds := [.data, .pinned], laidTests := true, laidLooks := .later }
def RelationParsesCardSaid : Prop := Claim7.holds Tryd.pinned (.plain (OpenSpec.ofChange relationParsesSpec)) relationParsesCard

/-- THE TIED CARD OF 'cellarerlaw07.RelationLists'. -/
def relationListsCard : Claim7 := { stood := { row := relationListsRow, standIns := [], harness := (true, "1fb72f27bcb9d5c403cd239d5b83ca1f03dcb711bdac63f297256dfa891e5018"), looks := false }, kinds := [], alts := [], laidByText := true, laidKinds := [.data, .pinned], laidTests := true, laidLooks := .later }
def RelationListsCardSaid : Prop := Claim7.holds Tryd.pinned (.plain (OpenSpec.ofChange relationListsSpec)) relationListsCard

/-- THE SECOND FORM's CARD OF 'cellarerlaw07.RelationTexts'. -/
def relationTextsUptoCard : Claim7 := { stood := { row := relationTextsUptoRow, standIns := [], harness := (true, "1fb72f27bcb9d5c403cd239d5b83ca1f03dcb711bdac63f297256dfa891e5018"), looks := false }, kinds := [], alts := [], laidByText := true, laidKinds := [.data, .pinned], laidTests := true, laidLooks := .later }
def RelationTextsUptoCardSaid : Prop := Claim7.holds Tryd.pinned (.plain (OpenSpec.upto relationTextsSpec)) relationTextsUptoCard

/-- THE SECOND FORM's CARD OF 'cellarerlaw07.RelationGroups'. -/
def relationGroupsUptoCard : Claim7 := { stood := { row := relationGroupsUptoRow, standIns := [], harness := (true, "1fb72f27bcb9d5c403cd239d5b83ca1f03dcb711bdac63f297256dfa891e5018"), looks := false }, kinds := [], alts := [], laidByText := true, laidKinds := [.data, .pinned], laidTests := true, laidLooks := .later }
def RelationGroupsUptoCardSaid : Prop := Claim7.holds Tryd.pinned (.plain (OpenSpec.upto relationGroupsSpec)) relationGroupsUptoCard

/-- THE SECOND FORM's CARD OF 'cellarerlaw07.RelationLacks'. -/
def relationLacksUptoCard : Claim7 := { stood := { row := relationLacksUptoRow, standIns := [], harness := (true, "1fb72f27bcb9d5c403cd239d5b83ca1f03dcb711bdac63f297256dfa891e5018"), looks := false }, kinds := [], alts := [], laidByText := true, laidKinds := [.data, .pinned], laidTests := true, laidLooks := .later }
def RelationLacksUptoCardSaid : Prop := Claim7.holds Tryd.pinned (.plain (OpenSpec.upto relationLacksSpec)) relationLacksUptoCard

/-- THE SECOND FORM's CARD OF 'cellarerlaw07.RelationParses'. -/
def relationParsesUptoCard : Claim7 := { stood := { row := relationParsesUptoRow, standIns := [], harness := (true, "1fb72f27bcb9d5c403cd239d5b83ca1f03dcb711bdac63f297256dfa891e5018"), looks := false }, kinds := [], alts := [], laidByText := true, laidKinds := [.data, .pinned], laidTests := true, laidLooks := .later }
def RelationParsesUptoCardSaid : Prop := Claim7.holds Tryd.pinned (.plain (OpenSpec.upto relationParsesSpec)) relationParsesUptoCard

/-- THE SECOND FORM's CARD OF 'cellarerlaw07.RelationLists'. -/
def relationListsUptoCard : Claim7 := { stood := { row := relationListsUptoRow, standIns := [], harness := (true, "1fb72f27bcb9d5c403cd239d5b83ca1f03dcb711bdac63f297256dfa891e5018"), looks := false }, kinds := [], alts := [], laidByText := true, laidKinds := [.data, .pinned], laidTests := true, laidLooks := .later }
def RelationListsUptoCardSaid : Prop := Claim7.holds Tryd.pinned (.plain (OpenSpec.upto relationListsSpec)) relationListsUptoCard
end Rows
end Go.Proofs.YtjjlkckemfdckaaDoor
