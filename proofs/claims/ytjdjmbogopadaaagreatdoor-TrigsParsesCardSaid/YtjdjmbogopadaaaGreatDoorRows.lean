/-
  NARROWER THAN 'FOR EVERY INPUT', by the rows' own cells (each row's printed sentence says how): TrigsPrints: laid · TrigsFired: laid · TrigsParses: laid · TrigsSets: laid.
  DERIVED. THE GIVEN ROWS OF THIS SEAT. 4 by the template 'for every input the law returns true; each argument reads behind the call as it read before'; 0 by the template 'total and deterministic' (their statements: YtjdjmbogopadaaaGreatDoorTotals.lean).
  GIVEN WITH THE SEED: the statements are not yours to turn. If you find one false, say at which input.
  Laid BY PROGRAM, IN A SANDBOX (cutbox-rows.mjs): the forced cells as the released guide's own fill.sh prints them over the translation 6825f8df45f53aac… (all of the seat's roots in one cut). By AI agents, Wed Nov 11 2026. No macro, syntax, notation, axiom, sorry.
-/
import Derived.Test.YtjdjmbogopadaaaGreatDoorChecked
import GoSem.PinnedTables
import GoSem.Claim
import GoSem.ClaimJoined
import GoSem.ClaimMapViews
import Derived.JoinedTies
import Derived.KernelRfl
namespace Go.Proofs.YtjdjmbogopadaaaGreatDoor
/- THE CELL 'sum', in the pinned program and in every row, IS THE sha256 OF THE DUMP (.gsa) THAT YtjdjmbogopadaaaGreatDoorProg.lean LOADS. Nothing in Lean hashes anything: it is a label: what it is worth is what the hold of that sum in a sandbox is worth. -/
noncomputable def Tryz.pinned : Pinned := { name := "ytjdjmbogopadaaagreatdoor", sum := "6825f8df45f53aacb40fe6a7c2578db94fb41cd5f86df0d84478ff5b26a261ad", checked := Tryz.checked }
namespace Rows
def none {H : Type} : Left H := { results := [], args := [] }

/- WHAT THE LISTED PACKAGE-LEVEL VARIABLES READ AS WHEN THE CALL BEGINS. Each datum BY PROGRAM (the guide's laid-datum.mjs) off the statement by which the dump's own 'gosem.cut.vars' lays the variable. In a bare row this is a premise. The card (YtjdjmbogopadaaaGreatDoorCards.lean) ties it to the program's text. -/
def laid_unicode_utf8_acceptRanges {H : Type} : DataW H := .agg [.agg [.lit (.int .u8 128), .lit (.int .u8 191)], .agg [.lit (.int .u8 160), .lit (.int .u8 191)], .agg [.lit (.int .u8 128), .lit (.int .u8 159)], .agg [.lit (.int .u8 144), .lit (.int .u8 191)], .agg [.lit (.int .u8 128), .lit (.int .u8 143)], .agg [.lit (.int .u8 0), .lit (.int .u8 0)], .agg [.lit (.int .u8 0), .lit (.int .u8 0)], .agg [.lit (.int .u8 0), .lit (.int .u8 0)], .agg [.lit (.int .u8 0), .lit (.int .u8 0)], .agg [.lit (.int .u8 0), .lit (.int .u8 0)], .agg [.lit (.int .u8 0), .lit (.int .u8 0)], .agg [.lit (.int .u8 0), .lit (.int .u8 0)], .agg [.lit (.int .u8 0), .lit (.int .u8 0)], .agg [.lit (.int .u8 0), .lit (.int .u8 0)], .agg [.lit (.int .u8 0), .lit (.int .u8 0)], .agg [.lit (.int .u8 0), .lit (.int .u8 0)]]
/-- One of Go's own tables, pinned by name: the form's constant. -/
def laid_unicode_utf8_first : DataW Unit := Go.Pinned.utf8First

/-- 'cellarerlaw12.TrigsPrints': WHATEVER THE INPUT: true; the input reads as it did. -/
def trigsPrintsSpec : ChangeSpec := { name := "trigsPrints", fn := fun _ => fun
  | [d] => { results := [.lit (.bool true)], args := [d] }
  | _ => none }
def trigsPrintsRow : OpenClaim := { program := "ytjdjmbogopadaaagreatdoor", sum := "6825f8df45f53aacb40fe6a7c2578db94fb41cd5f86df0d84478ff5b26a261ad", func := "cellarer/cellarerlaw12.TrigsPrints", spec := "trigsPrints", inPlace := ["internal/bytealg.CountString", "internal/bytealg.IndexByteString", "internal/bytealg.IndexString", "internal/abi.NoEscape", "internal/bytealg.MakeNoZero", "internal/bytealg.abigen_runtime_cmpstring", "slices.overlaps[cellarer/api.Fired]"], unfollowed := true, recurses := true, named := ["unicode/utf8.first", "unicode/utf8.acceptRanges", "internal/bytealg.MaxLen"], apart := false, laid := [("unicode/utf8.acceptRanges", laid_unicode_utf8_acceptRanges), ("unicode/utf8.first", laid_unicode_utf8_first)] }
def TrigsPrintsSaid : Prop := trigsPrintsRow.holds Tryz.pinned (OpenSpec.ofChange trigsPrintsSpec)

/-- ITS FALSE NEIGHBOUR: 'it returns false'. Refute it at one input. -/
def trigsPrintsWrong : ChangeSpec := { name := "trigsPrints", fn := fun _ => fun
  | [d] => { results := [.lit (.bool false)], args := [d] }
  | _ => none }
def TrigsPrintsWrongFalsely : Prop := trigsPrintsRow.holds Tryz.pinned (OpenSpec.ofChange trigsPrintsWrong)

/-- 'cellarerlaw12.TrigsFired': WHATEVER THE INPUT: true; the input reads as it did. -/
def trigsFiredSpec : ChangeSpec := { name := "trigsFired", fn := fun _ => fun
  | [d] => { results := [.lit (.bool true)], args := [d] }
  | _ => none }
def trigsFiredRow : OpenClaim := { program := "ytjdjmbogopadaaagreatdoor", sum := "6825f8df45f53aacb40fe6a7c2578db94fb41cd5f86df0d84478ff5b26a261ad", func := "cellarer/cellarerlaw12.TrigsFired", spec := "trigsFired", inPlace := ["internal/bytealg.CountString", "internal/bytealg.IndexByteString", "internal/bytealg.IndexString", "internal/abi.NoEscape", "internal/bytealg.MakeNoZero", "internal/bytealg.abigen_runtime_cmpstring", "slices.overlaps[cellarer/api.Fired]"], unfollowed := true, recurses := true, named := ["unicode/utf8.first", "unicode/utf8.acceptRanges", "internal/bytealg.MaxLen"], apart := false, laid := [("unicode/utf8.acceptRanges", laid_unicode_utf8_acceptRanges), ("unicode/utf8.first", laid_unicode_utf8_first)] }
def TrigsFiredSaid : Prop := trigsFiredRow.holds Tryz.pinned (OpenSpec.ofChange trigsFiredSpec)

/-- ITS FALSE NEIGHBOUR: 'it returns false'. Refute it at one input. -/
def trigsFiredWrong : ChangeSpec := { name := "trigsFired", fn := fun _ => fun
  | [d] => { results := [.lit (.bool false)], args := [d] }
  | _ => none }
def TrigsFiredWrongFalsely : Prop := trigsFiredRow.holds Tryz.pinned (OpenSpec.ofChange trigsFiredWrong)

/-- 'cellarerlaw12.TrigsParses': WHATEVER THE INPUT: true; the input reads as it did. -/
def trigsParsesSpec : ChangeSpec := { name := "trigsParses", fn := fun _ => fun
  | [d] => { results := [.lit (.bool true)], args := [d] }
  | _ => none }
def trigsParsesRow : OpenClaim := { program := "ytjdjmbogopadaaagreatdoor", sum := "6825f8df45f53aacb40fe6a7c2578db94fb41cd5f86df0d84478ff5b26a261ad", func := "cellarer/cellarerlaw12.TrigsParses", spec := "trigsParses", inPlace := ["internal/bytealg.CountString", "internal/bytealg.IndexByteString", "internal/bytealg.IndexString", "internal/abi.NoEscape", "internal/bytealg.MakeNoZero", "internal/bytealg.abigen_runtime_cmpstring", "slices.overlaps[cellarer/api.Fired]"], unfollowed := true, recurses := true, named := ["unicode/utf8.first", "unicode/utf8.acceptRanges", "internal/bytealg.MaxLen"], apart := false, laid := [("unicode/utf8.acceptRanges", laid_unicode_utf8_acceptRanges), ("unicode/utf8.first", laid_unicode_utf8_first)] }
def TrigsParsesSaid : Prop := trigsParsesRow.holds Tryz.pinned (OpenSpec.ofChange trigsParsesSpec)

/-- ITS FALSE NEIGHBOUR: 'it returns false'. Refute it at one input. -/
def trigsParsesWrong : ChangeSpec := { name := "trigsParses", fn := fun _ => fun
  | [d] => { results := [.lit (.bool false)], args := [d] }
  | _ => none }
def TrigsParsesWrongFalsely : Prop := trigsParsesRow.holds Tryz.pinned (OpenSpec.ofChange trigsParsesWrong)

/-- 'cellarerlaw12.TrigsSets': WHATEVER THE INPUT: true; the input reads as it did. -/
def trigsSetsSpec : ChangeSpec := { name := "trigsSets", fn := fun _ => fun
  | [d1, d2, d3] => { results := [.lit (.bool true)], args := [d1, d2, d3] }
  | _ => none }
def trigsSetsRow : OpenClaim := { program := "ytjdjmbogopadaaagreatdoor", sum := "6825f8df45f53aacb40fe6a7c2578db94fb41cd5f86df0d84478ff5b26a261ad", func := "cellarer/cellarerlaw12.TrigsSets", spec := "trigsSets", inPlace := ["internal/bytealg.CountString", "internal/bytealg.IndexByteString", "internal/bytealg.IndexString", "internal/abi.NoEscape", "internal/bytealg.MakeNoZero", "internal/bytealg.abigen_runtime_cmpstring", "slices.overlaps[cellarer/api.Fired]", "slices.overlaps[cellarer/api.Interest]"], unfollowed := true, recurses := true, named := ["unicode/utf8.first", "unicode/utf8.acceptRanges", "internal/bytealg.MaxLen"], apart := false, laid := [("unicode/utf8.acceptRanges", laid_unicode_utf8_acceptRanges), ("unicode/utf8.first", laid_unicode_utf8_first)] }
def TrigsSetsSaid : Prop := trigsSetsRow.holds Tryz.pinned (OpenSpec.ofChange trigsSetsSpec)

/-- ITS FALSE NEIGHBOUR: 'it returns false'. Refute it at one input. -/
def trigsSetsWrong : ChangeSpec := { name := "trigsSets", fn := fun _ => fun
  | [d1, d2, d3] => { results := [.lit (.bool false)], args := [d1, d2, d3] }
  | _ => none }
def TrigsSetsWrongFalsely : Prop := trigsSetsRow.holds Tryz.pinned (OpenSpec.ofChange trigsSetsWrong)

/- THE SECOND FORM. 'bulk': how many values and letters a reading holds, each counted each time it is reached (what is shared counts as often as it is met; a slice's spare places count too). A statement '..UptoSaid' is the law's where the arguments, and the package variables that the reading takes, are together of bulk at most 1048576: NARROWER than '..Said'. Prove '..Said' where nothing that the law and all that it calls make is longer than what came in: it says more and counts as full. Else prove '..UptoSaid'. A law counts once. -/
mutual
def uptoBulk {H : Type} : DataW H → Nat
  | .lit (.string bytes) => bytes.length + 1
  | .lit _ => 1
  | .nil => 1
  | .ptr d => uptoBulk d + 1
  | .slice elems spare => uptoBulkAll elems + uptoBulkAll spare + 1
  | .agg parts => uptoBulkAll parts + 1
  | .iface _ d => uptoBulk d + 1
  | .map entries => uptoBulkEntries entries + 1
  | .held _ => 1
def uptoBulkAll {H : Type} : List (DataW H) → Nat
  | [] => 0
  | d :: r => uptoBulk d + uptoBulkAll r
def uptoBulkEntries {H : Type} : List (Lit × DataW H) → Nat
  | [] => 0
  | x :: r => uptoBulkEntry x + uptoBulkEntries r
def uptoBulkEntry {H : Type} : Lit × DataW H → Nat
  | (.string bytes, d) => bytes.length + uptoBulk d + 1
  | (_, d) => uptoBulk d + 1
 end
def uptoSmall : (H : Type) → List (DataW H) → Bool := fun _ ds => decide (uptoBulkAll ds ≤ 1048576)
def OpenSpec.upto (s : _root_.Go.ChangeSpec) : _root_.Go.OpenSpec := { _root_.Go.OpenSpec.ofChange s with cond := some uptoSmall }

/-- 'cellarerlaw12.TrigsPrints', WHERE WHAT IT READS IS OF BULK AT MOST 1048576: true; the input reads as it did. -/
def trigsPrintsUptoRow : OpenClaim := { program := "ytjdjmbogopadaaagreatdoor", sum := "6825f8df45f53aacb40fe6a7c2578db94fb41cd5f86df0d84478ff5b26a261ad", func := "cellarer/cellarerlaw12.TrigsPrints", spec := "trigsPrints", inPlace := ["internal/bytealg.CountString", "internal/bytealg.IndexByteString", "internal/bytealg.IndexString", "internal/abi.NoEscape", "internal/bytealg.MakeNoZero", "internal/bytealg.abigen_runtime_cmpstring", "slices.overlaps[cellarer/api.Fired]"], unfollowed := true, recurses := true, named := ["unicode/utf8.first", "unicode/utf8.acceptRanges", "internal/bytealg.MaxLen"], apart := false, laid := [("unicode/utf8.acceptRanges", laid_unicode_utf8_acceptRanges), ("unicode/utf8.first", laid_unicode_utf8_first)], narrowed := true }
def TrigsPrintsUptoSaid : Prop := trigsPrintsUptoRow.holds Tryz.pinned (OpenSpec.upto trigsPrintsSpec)

/-- 'cellarerlaw12.TrigsFired', WHERE WHAT IT READS IS OF BULK AT MOST 1048576: true; the input reads as it did. -/
def trigsFiredUptoRow : OpenClaim := { program := "ytjdjmbogopadaaagreatdoor", sum := "6825f8df45f53aacb40fe6a7c2578db94fb41cd5f86df0d84478ff5b26a261ad", func := "cellarer/cellarerlaw12.TrigsFired", spec := "trigsFired", inPlace := ["internal/bytealg.CountString", "internal/bytealg.IndexByteString", "internal/bytealg.IndexString", "internal/abi.NoEscape", "internal/bytealg.MakeNoZero", "internal/bytealg.abigen_runtime_cmpstring", "slices.overlaps[cellarer/api.Fired]"], unfollowed := true, recurses := true, named := ["unicode/utf8.first", "unicode/utf8.acceptRanges", "internal/bytealg.MaxLen"], apart := false, laid := [("unicode/utf8.acceptRanges", laid_unicode_utf8_acceptRanges), ("unicode/utf8.first", laid_unicode_utf8_first)], narrowed := true }
def TrigsFiredUptoSaid : Prop := trigsFiredUptoRow.holds Tryz.pinned (OpenSpec.upto trigsFiredSpec)

/-- 'cellarerlaw12.TrigsParses', WHERE WHAT IT READS IS OF BULK AT MOST 1048576: true; the input reads as it did. -/
def trigsParsesUptoRow : OpenClaim := { program := "ytjdjmbogopadaaagreatdoor", sum := "6825f8df45f53aacb40fe6a7c2578db94fb41cd5f86df0d84478ff5b26a261ad", func := "cellarer/cellarerlaw12.TrigsParses", spec := "trigsParses", inPlace := ["internal/bytealg.CountString", "internal/bytealg.IndexByteString", "internal/bytealg.IndexString", "internal/abi.NoEscape", "internal/bytealg.MakeNoZero", "internal/bytealg.abigen_runtime_cmpstring", "slices.overlaps[cellarer/api.Fired]"], unfollowed := true, recurses := true, named := ["unicode/utf8.first", "unicode/utf8.acceptRanges", "internal/bytealg.MaxLen"], apart := false, laid := [("unicode/utf8.acceptRanges", laid_unicode_utf8_acceptRanges), ("unicode/utf8.first", laid_unicode_utf8_first)], narrowed := true }
def TrigsParsesUptoSaid : Prop := trigsParsesUptoRow.holds Tryz.pinned (OpenSpec.upto trigsParsesSpec)

/-- 'cellarerlaw12.TrigsSets', WHERE WHAT IT READS IS OF BULK AT MOST 1048576: true; the input reads as it did. -/
def trigsSetsUptoRow : OpenClaim := { program := "ytjdjmbogopadaaagreatdoor", sum := "6825f8df45f53aacb40fe6a7c2578db94fb41cd5f86df0d84478ff5b26a261ad", func := "cellarer/cellarerlaw12.TrigsSets", spec := "trigsSets", inPlace := ["internal/bytealg.CountString", "internal/bytealg.IndexByteString", "internal/bytealg.IndexString", "internal/abi.NoEscape", "internal/bytealg.MakeNoZero", "internal/bytealg.abigen_runtime_cmpstring", "slices.overlaps[cellarer/api.Fired]", "slices.overlaps[cellarer/api.Interest]"], unfollowed := true, recurses := true, named := ["unicode/utf8.first", "unicode/utf8.acceptRanges", "internal/bytealg.MaxLen"], apart := false, laid := [("unicode/utf8.acceptRanges", laid_unicode_utf8_acceptRanges), ("unicode/utf8.first", laid_unicode_utf8_first)], narrowed := true }
def TrigsSetsUptoSaid : Prop := trigsSetsUptoRow.holds Tryz.pinned (OpenSpec.upto trigsSetsSpec)

end Rows
end Go.Proofs.YtjdjmbogopadaaaGreatDoor
