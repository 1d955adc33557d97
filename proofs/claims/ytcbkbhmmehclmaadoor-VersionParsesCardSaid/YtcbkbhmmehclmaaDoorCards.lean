/-
  DERIVED. GIVEN WITH THE SEED: THE CARDS: each row of YtcbkbhmmehclmaaDoorRows.lean that lists a variable, with what it lists TIED to the program's text (the seventh form; the later family's looks); each row that meets fmt, with fmt's text TOLD by the authors' own Lean function (tested against real Go, not proved from fmt's source: count such statements apart). THE CARD IS WHAT COUNTS. Prove the row's statement (the work); the ties are given (YtcbkbhmmehclmaaDoorTie.lean); close each card by the builder's one call (the guide's Derived/Test/ToyasCard.lean, 'card_holds'). Laid BY PROGRAM, IN A SANDBOX (cutbox-door.mjs). By AI agents, Wed Nov 11 2026. No macro, syntax, notation, axiom, sorry.
-/
import Derived.Test.YtcbkbhmmehclmaaDoorRows
import GoSem.ClaimSeven
namespace Go.Proofs.YtcbkbhmmehclmaaDoor
namespace Rows

/-- THE TIED CARD OF 'cellarerlaw05.VersionParses'. -/
def versionParsesCard : Claim7 := { stood := { row := versionParsesRow, standIns := [], harness := (true, "721a3d522cc80fbbd678d41c369a2d0527d21f7a223ff3bc072c3784d41850dd"), looks := false }, kinds := [], alts := [], laidByText := true, laidKinds := [.data, .pinned], laidTests := true, laidLooks := .later }
def VersionParsesCardSaid : Prop := Claim7.holds Tryd.pinned (.plain (OpenSpec.ofChange versionParsesSpec)) versionParsesCard

/-- THE TIED CARD OF 'cellarerlaw05.VersionTexts'. -/
def versionTextsCard : Claim7 := { stood := { row := versionTextsRow, standIns := [], harness := (true, "721a3d522cc80fbbd678d41c369a2d0527d21f7a223ff3bc072c3784d41850dd"), looks := false }, kinds := [], alts := [], laidByText := true, laidKinds := [.data, .pinned], laidTests := true, laidLooks := .later }
def VersionTextsCardSaid : Prop := Claim7.holds Tryd.pinned (.plain (OpenSpec.ofChange versionTextsSpec)) versionTextsCard

/-- THE TIED CARD OF 'cellarerlaw05.VersionOrders'. -/
def versionOrdersCard : Claim7 := { stood := { row := versionOrdersRow, standIns := [], harness := (true, "721a3d522cc80fbbd678d41c369a2d0527d21f7a223ff3bc072c3784d41850dd"), looks := false }, kinds := [], alts := [], laidByText := true, laidKinds := [.data, .pinned], laidTests := true, laidLooks := .later }
def VersionOrdersCardSaid : Prop := Claim7.holds Tryd.pinned (.plain (OpenSpec.ofChange versionOrdersSpec)) versionOrdersCard

/-- THE TIED CARD OF 'cellarerlaw05.VersionChains'. -/
def versionChainsCard : Claim7 := { stood := { row := versionChainsRow, standIns := [], harness := (true, "721a3d522cc80fbbd678d41c369a2d0527d21f7a223ff3bc072c3784d41850dd"), looks := false }, kinds := [], alts := [], laidByText := true, laidKinds := [.data, .pinned], laidTests := true, laidLooks := .later }
def VersionChainsCardSaid : Prop := Claim7.holds Tryd.pinned (.plain (OpenSpec.ofChange versionChainsSpec)) versionChainsCard

/-- THE TIED CARD OF 'cellarerlaw05.VersionBest'. -/
def versionBestCard : Claim7 := { stood := { row := versionBestRow, standIns := [], harness := (true, "721a3d522cc80fbbd678d41c369a2d0527d21f7a223ff3bc072c3784d41850dd"), looks := false }, kinds := [], alts := [], laidByText := true, laidKinds := [.data, .pinned], laidTests := true, laidLooks := .later }
def VersionBestCardSaid : Prop := Claim7.holds Tryd.pinned (.plain (OpenSpec.ofChange versionBestSpec)) versionBestCard

/-- THE TIED CARD OF 'cellarerlaw05.VersionCompares'. -/
def versionComparesCard : Claim7 := { stood := { row := versionComparesRow, standIns := [], harness := (true, "721a3d522cc80fbbd678d41c369a2d0527d21f7a223ff3bc072c3784d41850dd"), looks := false }, kinds := [], alts := [], laidByText := true, laidKinds := [.data, .pinned], laidTests := true, laidLooks := .later }
def VersionComparesCardSaid : Prop := Claim7.holds Tryd.pinned (.plain (OpenSpec.ofChange versionComparesSpec)) versionComparesCard

/-- THE SECOND FORM's CARD OF 'cellarerlaw05.VersionParses'. -/
def versionParsesUptoCard : Claim7 := { stood := { row := versionParsesUptoRow, standIns := [], harness := (true, "721a3d522cc80fbbd678d41c369a2d0527d21f7a223ff3bc072c3784d41850dd"), looks := false }, kinds := [], alts := [], laidByText := true, laidKinds := [.data, .pinned], laidTests := true, laidLooks := .later }
def VersionParsesUptoCardSaid : Prop := Claim7.holds Tryd.pinned (.plain (OpenSpec.upto versionParsesSpec)) versionParsesUptoCard

/-- THE SECOND FORM's CARD OF 'cellarerlaw05.VersionTexts'. -/
def versionTextsUptoCard : Claim7 := { stood := { row := versionTextsUptoRow, standIns := [], harness := (true, "721a3d522cc80fbbd678d41c369a2d0527d21f7a223ff3bc072c3784d41850dd"), looks := false }, kinds := [], alts := [], laidByText := true, laidKinds := [.data, .pinned], laidTests := true, laidLooks := .later }
def VersionTextsUptoCardSaid : Prop := Claim7.holds Tryd.pinned (.plain (OpenSpec.upto versionTextsSpec)) versionTextsUptoCard

/-- THE SECOND FORM's CARD OF 'cellarerlaw05.VersionOrders'. -/
def versionOrdersUptoCard : Claim7 := { stood := { row := versionOrdersUptoRow, standIns := [], harness := (true, "721a3d522cc80fbbd678d41c369a2d0527d21f7a223ff3bc072c3784d41850dd"), looks := false }, kinds := [], alts := [], laidByText := true, laidKinds := [.data, .pinned], laidTests := true, laidLooks := .later }
def VersionOrdersUptoCardSaid : Prop := Claim7.holds Tryd.pinned (.plain (OpenSpec.upto versionOrdersSpec)) versionOrdersUptoCard

/-- THE SECOND FORM's CARD OF 'cellarerlaw05.VersionChains'. -/
def versionChainsUptoCard : Claim7 := { stood := { row := versionChainsUptoRow, standIns := [], harness := (true, "721a3d522cc80fbbd678d41c369a2d0527d21f7a223ff3bc072c3784d41850dd"), looks := false }, kinds := [], alts := [], laidByText := true, laidKinds := [.data, .pinned], laidTests := true, laidLooks := .later }
def VersionChainsUptoCardSaid : Prop := Claim7.holds Tryd.pinned (.plain (OpenSpec.upto versionChainsSpec)) versionChainsUptoCard

/-- THE SECOND FORM's CARD OF 'cellarerlaw05.VersionBest'. -/
def versionBestUptoCard : Claim7 := { stood := { row := versionBestUptoRow, standIns := [], harness := (true, "721a3d522cc80fbbd678d41c369a2d0527d21f7a223ff3bc072c3784d41850dd"), looks := false }, kinds := [], alts := [], laidByText := true, laidKinds := [.data, .pinned], laidTests := true, laidLooks := .later }
def VersionBestUptoCardSaid : Prop := Claim7.holds Tryd.pinned (.plain (OpenSpec.upto versionBestSpec)) versionBestUptoCard

/-- THE SECOND FORM's CARD OF 'cellarerlaw05.VersionCompares'. -/
def versionComparesUptoCard : Claim7 := { stood := { row := versionComparesUptoRow, standIns := [], harness := (true, "721a3d522cc80fbbd678d41c369a2d0527d21f7a223ff3bc072c3784d41850dd"), looks := false }, kinds := [], alts := [], laidByText := true, laidKinds := [.data, .pinned], laidTests := true, laidLooks := .later }
def VersionComparesUptoCardSaid : Prop := Claim7.holds Tryd.pinned (.plain (OpenSpec.upto versionComparesSpec)) versionComparesUptoCard
end Rows
end Go.Proofs.YtcbkbhmmehclmaaDoor
