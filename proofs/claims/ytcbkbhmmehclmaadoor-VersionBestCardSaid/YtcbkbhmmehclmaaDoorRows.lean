/-
  NARROWER THAN 'FOR EVERY INPUT', by the rows' own cells (each row's printed sentence says how): VersionParses: laid · VersionTexts: laid · VersionOrders: laid · VersionChains: laid · VersionBest: laid · VersionCompares: laid.
  DERIVED. THE GIVEN ROWS OF THIS SEAT. 6 by the template 'for every input the law returns true; each argument reads behind the call as it read before'; 0 by the template 'total and deterministic' (their statements: YtcbkbhmmehclmaaDoorTotals.lean).
  GIVEN WITH THE SEED: the statements are not yours to turn. If you find one false, say at which input.
  Laid BY PROGRAM, IN A SANDBOX (cutbox-rows.mjs): the forced cells as the released guide's own fill.sh prints them over the translation 824fdf25d1a8b637… (all of the seat's roots in one cut). By AI agents, Wed Nov 11 2026. No macro, syntax, notation, axiom, sorry.
-/
import Derived.Test.YtcbkbhmmehclmaaDoorChecked
import GoSem.PinnedTables
import GoSem.Claim
import GoSem.ClaimJoined
import GoSem.ClaimMapViews
import Derived.JoinedTies
import Derived.KernelRfl
namespace Go.Proofs.YtcbkbhmmehclmaaDoor
/- THE CELL 'sum', in the pinned program and in every row, IS THE sha256 OF THE DUMP (.gsa) THAT YtcbkbhmmehclmaaDoorProg.lean LOADS. Nothing in Lean hashes anything: it is a label: what it is worth is what the hold of that sum in a sandbox is worth. -/
noncomputable def Tryd.pinned : Pinned := { name := "ytcbkbhmmehclmaadoor", sum := "824fdf25d1a8b6378fae8098a4e2db6c06033ec45b6d9ae032b499b6147870e5", checked := Tryd.checked }
namespace Rows
def none {H : Type} : Left H := { results := [], args := [] }

/- WHAT THE LISTED PACKAGE-LEVEL VARIABLES READ AS WHEN THE CALL BEGINS. Each datum BY PROGRAM (the guide's laid-datum.mjs) off the statement by which the dump's own 'gosem.cut.vars' lays the variable. In a bare row this is a premise. The card (YtcbkbhmmehclmaaDoorCards.lean) ties it to the program's text. -/
def laid_unicode_utf8_acceptRanges {H : Type} : DataW H := .agg [.agg [.lit (.int .u8 128), .lit (.int .u8 191)], .agg [.lit (.int .u8 160), .lit (.int .u8 191)], .agg [.lit (.int .u8 128), .lit (.int .u8 159)], .agg [.lit (.int .u8 144), .lit (.int .u8 191)], .agg [.lit (.int .u8 128), .lit (.int .u8 143)], .agg [.lit (.int .u8 0), .lit (.int .u8 0)], .agg [.lit (.int .u8 0), .lit (.int .u8 0)], .agg [.lit (.int .u8 0), .lit (.int .u8 0)], .agg [.lit (.int .u8 0), .lit (.int .u8 0)], .agg [.lit (.int .u8 0), .lit (.int .u8 0)], .agg [.lit (.int .u8 0), .lit (.int .u8 0)], .agg [.lit (.int .u8 0), .lit (.int .u8 0)], .agg [.lit (.int .u8 0), .lit (.int .u8 0)], .agg [.lit (.int .u8 0), .lit (.int .u8 0)], .agg [.lit (.int .u8 0), .lit (.int .u8 0)], .agg [.lit (.int .u8 0), .lit (.int .u8 0)]]
/-- One of Go's own tables, pinned by name: the form's constant. -/
def laid_unicode_utf8_first : DataW Unit := Go.Pinned.utf8First

/-- 'cellarerlaw05.VersionParses': WHATEVER THE INPUT: true; the input reads as it did. -/
def versionParsesSpec : ChangeSpec := { name := "versionParses", fn := fun _ => fun
  | [d] => { results := [.lit (.bool true)], args := [d] }
  | _ => none }
def versionParsesRow : OpenClaim := { program := "ytcbkbhmmehclmaadoor", sum := "824fdf25d1a8b6378fae8098a4e2db6c06033ec45b6d9ae032b499b6147870e5", func := "cellarer/cellarerlaw05.VersionParses", spec := "versionParses", inPlace := ["internal/bytealg.IndexByteString", "internal/bytealg.IndexString"], named := ["unicode/utf8.first", "unicode/utf8.acceptRanges", "internal/bytealg.MaxLen"], apart := false, laid := [("unicode/utf8.acceptRanges", laid_unicode_utf8_acceptRanges), ("unicode/utf8.first", laid_unicode_utf8_first)] }
def VersionParsesSaid : Prop := versionParsesRow.holds Tryd.pinned (OpenSpec.ofChange versionParsesSpec)

/-- ITS FALSE NEIGHBOUR: 'it returns false'. Refute it at one input. -/
def versionParsesWrong : ChangeSpec := { name := "versionParses", fn := fun _ => fun
  | [d] => { results := [.lit (.bool false)], args := [d] }
  | _ => none }
def VersionParsesWrongFalsely : Prop := versionParsesRow.holds Tryd.pinned (OpenSpec.ofChange versionParsesWrong)

/-- 'cellarerlaw05.VersionTexts': WHATEVER THE INPUT: true; the input reads as it did. -/
def versionTextsSpec : ChangeSpec := { name := "versionTexts", fn := fun _ => fun
  | [d] => { results := [.lit (.bool true)], args := [d] }
  | _ => none }
def versionTextsRow : OpenClaim := { program := "ytcbkbhmmehclmaadoor", sum := "824fdf25d1a8b6378fae8098a4e2db6c06033ec45b6d9ae032b499b6147870e5", func := "cellarer/cellarerlaw05.VersionTexts", spec := "versionTexts", inPlace := ["internal/bytealg.IndexByteString", "internal/bytealg.IndexString"], named := ["unicode/utf8.first", "unicode/utf8.acceptRanges", "internal/bytealg.MaxLen"], apart := false, laid := [("unicode/utf8.acceptRanges", laid_unicode_utf8_acceptRanges), ("unicode/utf8.first", laid_unicode_utf8_first)] }
def VersionTextsSaid : Prop := versionTextsRow.holds Tryd.pinned (OpenSpec.ofChange versionTextsSpec)

/-- ITS FALSE NEIGHBOUR: 'it returns false'. Refute it at one input. -/
def versionTextsWrong : ChangeSpec := { name := "versionTexts", fn := fun _ => fun
  | [d] => { results := [.lit (.bool false)], args := [d] }
  | _ => none }
def VersionTextsWrongFalsely : Prop := versionTextsRow.holds Tryd.pinned (OpenSpec.ofChange versionTextsWrong)

/-- 'cellarerlaw05.VersionOrders': WHATEVER THE INPUT: true; the input reads as it did. -/
def versionOrdersSpec : ChangeSpec := { name := "versionOrders", fn := fun _ => fun
  | [d1, d2] => { results := [.lit (.bool true)], args := [d1, d2] }
  | _ => none }
def versionOrdersRow : OpenClaim := { program := "ytcbkbhmmehclmaadoor", sum := "824fdf25d1a8b6378fae8098a4e2db6c06033ec45b6d9ae032b499b6147870e5", func := "cellarer/cellarerlaw05.VersionOrders", spec := "versionOrders", inPlace := ["internal/bytealg.IndexByteString", "internal/bytealg.IndexString"], named := ["unicode/utf8.first", "unicode/utf8.acceptRanges", "internal/bytealg.MaxLen"], apart := false, laid := [("unicode/utf8.acceptRanges", laid_unicode_utf8_acceptRanges), ("unicode/utf8.first", laid_unicode_utf8_first)] }
def VersionOrdersSaid : Prop := versionOrdersRow.holds Tryd.pinned (OpenSpec.ofChange versionOrdersSpec)

/-- ITS FALSE NEIGHBOUR: 'it returns false'. Refute it at one input. -/
def versionOrdersWrong : ChangeSpec := { name := "versionOrders", fn := fun _ => fun
  | [d1, d2] => { results := [.lit (.bool false)], args := [d1, d2] }
  | _ => none }
def VersionOrdersWrongFalsely : Prop := versionOrdersRow.holds Tryd.pinned (OpenSpec.ofChange versionOrdersWrong)

/-- 'cellarerlaw05.VersionChains': WHATEVER THE INPUT: true; the input reads as it did. -/
def versionChainsSpec : ChangeSpec := { name := "versionChains", fn := fun _ => fun
  | [d1, d2, d3] => { results := [.lit (.bool true)], args := [d1, d2, d3] }
  | _ => none }
def versionChainsRow : OpenClaim := { program := "ytcbkbhmmehclmaadoor", sum := "824fdf25d1a8b6378fae8098a4e2db6c06033ec45b6d9ae032b499b6147870e5", func := "cellarer/cellarerlaw05.VersionChains", spec := "versionChains", inPlace := ["internal/bytealg.IndexByteString", "internal/bytealg.IndexString"], named := ["unicode/utf8.first", "unicode/utf8.acceptRanges", "internal/bytealg.MaxLen"], apart := false, laid := [("unicode/utf8.acceptRanges", laid_unicode_utf8_acceptRanges), ("unicode/utf8.first", laid_unicode_utf8_first)] }
def VersionChainsSaid : Prop := versionChainsRow.holds Tryd.pinned (OpenSpec.ofChange versionChainsSpec)

/-- ITS FALSE NEIGHBOUR: 'it returns false'. Refute it at one input. -/
def versionChainsWrong : ChangeSpec := { name := "versionChains", fn := fun _ => fun
  | [d1, d2, d3] => { results := [.lit (.bool false)], args := [d1, d2, d3] }
  | _ => none }
def VersionChainsWrongFalsely : Prop := versionChainsRow.holds Tryd.pinned (OpenSpec.ofChange versionChainsWrong)

/-- 'cellarerlaw05.VersionBest': WHATEVER THE INPUT: true; the input reads as it did. -/
def versionBestSpec : ChangeSpec := { name := "versionBest", fn := fun _ => fun
  | [d] => { results := [.lit (.bool true)], args := [d] }
  | _ => none }
def versionBestRow : OpenClaim := { program := "ytcbkbhmmehclmaadoor", sum := "824fdf25d1a8b6378fae8098a4e2db6c06033ec45b6d9ae032b499b6147870e5", func := "cellarer/cellarerlaw05.VersionBest", spec := "versionBest", inPlace := ["internal/bytealg.IndexByteString", "internal/bytealg.IndexString"], named := ["unicode/utf8.first", "unicode/utf8.acceptRanges", "internal/bytealg.MaxLen"], apart := false, laid := [("unicode/utf8.acceptRanges", laid_unicode_utf8_acceptRanges), ("unicode/utf8.first", laid_unicode_utf8_first)] }
def VersionBestSaid : Prop := versionBestRow.holds Tryd.pinned (OpenSpec.ofChange versionBestSpec)

/-- ITS FALSE NEIGHBOUR: 'it returns false'. Refute it at one input. -/
def versionBestWrong : ChangeSpec := { name := "versionBest", fn := fun _ => fun
  | [d] => { results := [.lit (.bool false)], args := [d] }
  | _ => none }
def VersionBestWrongFalsely : Prop := versionBestRow.holds Tryd.pinned (OpenSpec.ofChange versionBestWrong)

/-- 'cellarerlaw05.VersionCompares': WHATEVER THE INPUT: true; the input reads as it did. -/
def versionComparesSpec : ChangeSpec := { name := "versionCompares", fn := fun _ => fun
  | [d1, d2, d3] => { results := [.lit (.bool true)], args := [d1, d2, d3] }
  | _ => none }
def versionComparesRow : OpenClaim := { program := "ytcbkbhmmehclmaadoor", sum := "824fdf25d1a8b6378fae8098a4e2db6c06033ec45b6d9ae032b499b6147870e5", func := "cellarer/cellarerlaw05.VersionCompares", spec := "versionCompares", inPlace := ["internal/bytealg.IndexByteString", "internal/bytealg.IndexString"], named := ["unicode/utf8.first", "unicode/utf8.acceptRanges", "internal/bytealg.MaxLen"], apart := false, laid := [("unicode/utf8.acceptRanges", laid_unicode_utf8_acceptRanges), ("unicode/utf8.first", laid_unicode_utf8_first)] }
def VersionComparesSaid : Prop := versionComparesRow.holds Tryd.pinned (OpenSpec.ofChange versionComparesSpec)

/-- ITS FALSE NEIGHBOUR: 'it returns false'. Refute it at one input. -/
def versionComparesWrong : ChangeSpec := { name := "versionCompares", fn := fun _ => fun
  | [d1, d2, d3] => { results := [.lit (.bool false)], args := [d1, d2, d3] }
  | _ => none }
def VersionComparesWrongFalsely : Prop := versionComparesRow.holds Tryd.pinned (OpenSpec.ofChange versionComparesWrong)

/- THE SECOND FORM. 'bulk': how many values and letters a reading holds, each counted each time it is reached (what is shared counts as often as it is met; a slice's spare places count too). A statement '..UptoSaid' is the law's where the arguments, and the package variables that the reading takes, are together of bulk at most 1048576: NARROWER than '..Said'. Prove '..Said' where nothing that the law and all that it calls make is longer than what came in: it says more and counts as full. Else prove '..UptoSaid'. A law counts once. -/
mutual
def uptoBulk {H : Type} : DataW H → Nat
  | .lit (.string bytes) => bytes.length + 1
  | .lit _ => 1
  | .nil => 1
  | .ptr d => uptoBulk d + 1
  | .slice elems spare => uptoBulkAll elems + uptoBulkAll spare + 1
  | .agg parts => uptoBulkAll parts + 1
  | .iface _ d => uptoBulk d + 1
  | .map entries => uptoBulkEntries entries + 1
  | .held _ => 1
def uptoBulkAll {H : Type} : List (DataW H) → Nat
  | [] => 0
  | d :: r => uptoBulk d + uptoBulkAll r
def uptoBulkEntries {H : Type} : List (Lit × DataW H) → Nat
  | [] => 0
  | x :: r => uptoBulkEntry x + uptoBulkEntries r
def uptoBulkEntry {H : Type} : Lit × DataW H → Nat
  | (.string bytes, d) => bytes.length + uptoBulk d + 1
  | (_, d) => uptoBulk d + 1
 end
def uptoSmall : (H : Type) → List (DataW H) → Bool := fun _ ds => decide (uptoBulkAll ds ≤ 1048576)
def OpenSpec.upto (s : _root_.Go.ChangeSpec) : _root_.Go.OpenSpec := { _root_.Go.OpenSpec.ofChange s with cond := some uptoSmall }

/-- 'cellarerlaw05.VersionParses', WHERE WHAT IT READS IS OF BULK AT MOST 1048576: true; the input reads as it did. -/
def versionParsesUptoRow : OpenClaim := { program := "ytcbkbhmmehclmaadoor", sum := "824fdf25d1a8b6378fae8098a4e2db6c06033ec45b6d9ae032b499b6147870e5", func := "cellarer/cellarerlaw05.VersionParses", spec := "versionParses", inPlace := ["internal/bytealg.IndexByteString", "internal/bytealg.IndexString"], named := ["unicode/utf8.first", "unicode/utf8.acceptRanges", "internal/bytealg.MaxLen"], apart := false, laid := [("unicode/utf8.acceptRanges", laid_unicode_utf8_acceptRanges), ("unicode/utf8.first", laid_unicode_utf8_first)], narrowed := true }
def VersionParsesUptoSaid : Prop := versionParsesUptoRow.holds Tryd.pinned (OpenSpec.upto versionParsesSpec)

/-- 'cellarerlaw05.VersionTexts', WHERE WHAT IT READS IS OF BULK AT MOST 1048576: true; the input reads as it did. -/
def versionTextsUptoRow : OpenClaim := { program := "ytcbkbhmmehclmaadoor", sum := "824fdf25d1a8b6378fae8098a4e2db6c06033ec45b6d9ae032b499b6147870e5", func := "cellarer/cellarerlaw05.VersionTexts", spec := "versionTexts", inPlace := ["internal/bytealg.IndexByteString", "internal/bytealg.IndexString"], named := ["unicode/utf8.first", "unicode/utf8.acceptRanges", "internal/bytealg.MaxLen"], apart := false, laid := [("unicode/utf8.acceptRanges", laid_unicode_utf8_acceptRanges), ("unicode/utf8.first", laid_unicode_utf8_first)], narrowed := true }
def VersionTextsUptoSaid : Prop := versionTextsUptoRow.holds Tryd.pinned (OpenSpec.upto versionTextsSpec)

/-- 'cellarerlaw05.VersionOrders', WHERE WHAT IT READS IS OF BULK AT MOST 1048576: true; the input reads as it did. -/
def versionOrdersUptoRow : OpenClaim := { program := "ytcbkbhmmehclmaadoor", sum := "824fdf25d1a8b6378fae8098a4e2db6c06033ec45b6d9ae032b499b6147870e5", func := "cellarer/cellarerlaw05.VersionOrders", spec := "versionOrders", inPlace := ["internal/bytealg.IndexByteString", "internal/bytealg.IndexString"], named := ["unicode/utf8.first", "unicode/utf8.acceptRanges", "internal/bytealg.MaxLen"], apart := false, laid := [("unicode/utf8.acceptRanges", laid_unicode_utf8_acceptRanges), ("unicode/utf8.first", laid_unicode_utf8_first)], narrowed := true }
def VersionOrdersUptoSaid : Prop := versionOrdersUptoRow.holds Tryd.pinned (OpenSpec.upto versionOrdersSpec)

/-- 'cellarerlaw05.VersionChains', WHERE WHAT IT READS IS OF BULK AT MOST 1048576: true; the input reads as it did. -/
def versionChainsUptoRow : OpenClaim := { program := "ytcbkbhmmehclmaadoor", sum := "824fdf25d1a8b6378fae8098a4e2db6c06033ec45b6d9ae032b499b6147870e5", func := "cellarer/cellarerlaw05.VersionChains", spec := "versionChains", inPlace := ["internal/bytealg.IndexByteString", "internal/bytealg.IndexString"], named := ["unicode/utf8.first", "unicode/utf8.acceptRanges", "internal/bytealg.MaxLen"], apart := false, laid := [("unicode/utf8.acceptRanges", laid_unicode_utf8_acceptRanges), ("unicode/utf8.first", laid_unicode_utf8_first)], narrowed := true }
def VersionChainsUptoSaid : Prop := versionChainsUptoRow.holds Tryd.pinned (OpenSpec.upto versionChainsSpec)

/-- 'cellarerlaw05.VersionBest', WHERE WHAT IT READS IS OF BULK AT MOST 1048576: true; the input reads as it did. -/
def versionBestUptoRow : OpenClaim := { program := "ytcbkbhmmehclmaadoor", sum := "824fdf25d1a8b6378fae8098a4e2db6c06033ec45b6d9ae032b499b6147870e5", func := "cellarer/cellarerlaw05.VersionBest", spec := "versionBest", inPlace := ["internal/bytealg.IndexByteString", "internal/bytealg.IndexString"], named := ["unicode/utf8.first", "unicode/utf8.acceptRanges", "internal/bytealg.MaxLen"], apart := false, laid := [("unicode/utf8.acceptRanges", laid_unicode_utf8_acceptRanges), ("unicode/utf8.first", laid_unicode_utf8_first)], narrowed := true }
def VersionBestUptoSaid : Prop := versionBestUptoRow.holds Tryd.pinned (OpenSpec.upto versionBestSpec)

/-- 'cellarerlaw05.VersionCompares', WHERE WHAT IT READS IS OF BULK AT MOST 1048576: true; the input reads as it did. -/
def versionComparesUptoRow : OpenClaim := { program := "ytcbkbhmmehclmaadoor", sum := "824fdf25d1a8b6378fae8098a4e2db6c06033ec45b6d9ae032b499b6147870e5", func := "cellarer/cellarerlaw05.VersionCompares", spec := "versionCompares", inPlace := ["internal/bytealg.IndexByteString", "internal/bytealg.IndexString"], named := ["unicode/utf8.first", "unicode/utf8.acceptRanges", "internal/bytealg.MaxLen"], apart := false, laid := [("unicode/utf8.acceptRanges", laid_unicode_utf8_acceptRanges), ("unicode/utf8.first", laid_unicode_utf8_first)], narrowed := true }
def VersionComparesUptoSaid : Prop := versionComparesUptoRow.holds Tryd.pinned (OpenSpec.upto versionComparesSpec)

end Rows
end Go.Proofs.YtcbkbhmmehclmaaDoor
