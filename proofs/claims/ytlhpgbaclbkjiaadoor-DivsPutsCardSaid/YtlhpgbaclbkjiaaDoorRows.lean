/-
  NARROWER THAN 'FOR EVERY INPUT', by the rows' own cells (each row's printed sentence says how): DivsPrints: laid · DivsParses: laid · DivsTrue: laid · DivsApart: laid · DivsPuts: laid.
  DERIVED. THE GIVEN ROWS OF THIS SEAT. 5 by the template 'for every input the law returns true; each argument reads behind the call as it read before'; 0 by the template 'total and deterministic' (their statements: YtlhpgbaclbkjiaaDoorTotals.lean).
  GIVEN WITH THE SEED: the statements are not yours to turn. If you find one false, say at which input.
  Laid BY PROGRAM, IN A SANDBOX (cutbox-rows.mjs): the forced cells as the released guide's own fill.sh prints them over the translation d26c3e4834881622… (all of the seat's roots in one cut). By AI agents, Wed Nov 11 2026. No macro, syntax, notation, axiom, sorry.
-/
import Derived.Test.YtlhpgbaclbkjiaaDoorChecked
import GoSem.PinnedTables
import GoSem.Claim
import GoSem.ClaimJoined
import GoSem.ClaimMapViews
import Derived.JoinedTies
import Derived.KernelRfl
namespace Go.Proofs.YtlhpgbaclbkjiaaDoor
/- THE CELL 'sum', in the pinned program and in every row, IS THE sha256 OF THE DUMP (.gsa) THAT YtlhpgbaclbkjiaaDoorProg.lean LOADS. Nothing in Lean hashes anything: it is a label: what it is worth is what the hold of that sum in a sandbox is worth. -/
noncomputable def Tryd.pinned : Pinned := { name := "ytlhpgbaclbkjiaadoor", sum := "d26c3e4834881622f7f800bfac5c8d2d88cbdc563e9a6a2dd5b05ce1192adc4a", checked := Tryd.checked }
namespace Rows
def none {H : Type} : Left H := { results := [], args := [] }

/- WHAT THE LISTED PACKAGE-LEVEL VARIABLES READ AS WHEN THE CALL BEGINS. Each datum BY PROGRAM (the guide's laid-datum.mjs) off the statement by which the dump's own 'gosem.cut.vars' lays the variable. In a bare row this is a premise. The card (YtlhpgbaclbkjiaaDoorCards.lean) ties it to the program's text. -/
def laid_unicode_utf8_acceptRanges {H : Type} : DataW H := .agg [.agg [.lit (.int .u8 128), .lit (.int .u8 191)], .agg [.lit (.int .u8 160), .lit (.int .u8 191)], .agg [.lit (.int .u8 128), .lit (.int .u8 159)], .agg [.lit (.int .u8 144), .lit (.int .u8 191)], .agg [.lit (.int .u8 128), .lit (.int .u8 143)], .agg [.lit (.int .u8 0), .lit (.int .u8 0)], .agg [.lit (.int .u8 0), .lit (.int .u8 0)], .agg [.lit (.int .u8 0), .lit (.int .u8 0)], .agg [.lit (.int .u8 0), .lit (.int .u8 0)], .agg [.lit (.int .u8 0), .lit (.int .u8 0)], .agg [.lit (.int .u8 0), .lit (.int .u8 0)], .agg [.lit (.int .u8 0), .lit (.int .u8 0)], .agg [.lit (.int .u8 0), .lit (.int .u8 0)], .agg [.lit (.int .u8 0), .lit (.int .u8 0)], .agg [.lit (.int .u8 0), .lit (.int .u8 0)], .agg [.lit (.int .u8 0), .lit (.int .u8 0)]]
/-- One of Go's own tables, pinned by name: the form's constant. -/
def laid_unicode_utf8_first : DataW Unit := Go.Pinned.utf8First

/-- 'cellarerlaw09.DivsPrints': WHATEVER THE INPUT: true; the input reads as it did. -/
def divsPrintsSpec : ChangeSpec := { name := "divsPrints", fn := fun _ => fun
  | [d] => { results := [.lit (.bool true)], args := [d] }
  | _ => none }
def divsPrintsRow : OpenClaim := { program := "ytlhpgbaclbkjiaadoor", sum := "d26c3e4834881622f7f800bfac5c8d2d88cbdc563e9a6a2dd5b05ce1192adc4a", func := "cellarer/cellarerlaw09.DivsPrints", spec := "divsPrints", inPlace := ["internal/bytealg.CountString", "internal/bytealg.IndexByteString", "internal/bytealg.IndexString", "internal/abi.NoEscape", "internal/bytealg.MakeNoZero"], unfollowed := true, recurses := true, named := ["unicode/utf8.first", "unicode/utf8.acceptRanges", "internal/bytealg.MaxLen"], apart := false, laid := [("unicode/utf8.acceptRanges", laid_unicode_utf8_acceptRanges), ("unicode/utf8.first", laid_unicode_utf8_first)] }
def DivsPrintsSaid : Prop := divsPrintsRow.holds Tryd.pinned (OpenSpec.ofChange divsPrintsSpec)

/-- ITS FALSE NEIGHBOUR: 'it returns false'. Refute it at one input. -/
def divsPrintsWrong : ChangeSpec := { name := "divsPrints", fn := fun _ => fun
  | [d] => { results := [.lit (.bool false)], args := [d] }
  | _ => none }
def DivsPrintsWrongFalsely : Prop := divsPrintsRow.holds Tryd.pinned (OpenSpec.ofChange divsPrintsWrong)

/-- 'cellarerlaw09.DivsParses': WHATEVER THE INPUT: true; the input reads as it did. -/
def divsParsesSpec : ChangeSpec := { name := "divsParses", fn := fun _ => fun
  | [d] => { results := [.lit (.bool true)], args := [d] }
  | _ => none }
def divsParsesRow : OpenClaim := { program := "ytlhpgbaclbkjiaadoor", sum := "d26c3e4834881622f7f800bfac5c8d2d88cbdc563e9a6a2dd5b05ce1192adc4a", func := "cellarer/cellarerlaw09.DivsParses", spec := "divsParses", inPlace := ["internal/bytealg.CountString", "internal/bytealg.IndexByteString", "internal/bytealg.IndexString", "internal/abi.NoEscape", "internal/bytealg.MakeNoZero"], unfollowed := true, recurses := true, named := ["unicode/utf8.first", "unicode/utf8.acceptRanges", "internal/bytealg.MaxLen"], apart := false, laid := [("unicode/utf8.acceptRanges", laid_unicode_utf8_acceptRanges), ("unicode/utf8.first", laid_unicode_utf8_first)] }
def DivsParsesSaid : Prop := divsParsesRow.holds Tryd.pinned (OpenSpec.ofChange divsParsesSpec)

/-- ITS FALSE NEIGHBOUR: 'it returns false'. Refute it at one input. -/
def divsParsesWrong : ChangeSpec := { name := "divsParses", fn := fun _ => fun
  | [d] => { results := [.lit (.bool false)], args := [d] }
  | _ => none }
def DivsParsesWrongFalsely : Prop := divsParsesRow.holds Tryd.pinned (OpenSpec.ofChange divsParsesWrong)

/-- 'cellarerlaw09.DivsTrue': WHATEVER THE INPUT: true; the input reads as it did. -/
def divsTrueSpec : ChangeSpec := { name := "divsTrue", fn := fun _ => fun
  | [d1, d2, d3] => { results := [.lit (.bool true)], args := [d1, d2, d3] }
  | _ => none }
def divsTrueRow : OpenClaim := { program := "ytlhpgbaclbkjiaadoor", sum := "d26c3e4834881622f7f800bfac5c8d2d88cbdc563e9a6a2dd5b05ce1192adc4a", func := "cellarer/cellarerlaw09.DivsTrue", spec := "divsTrue", inPlace := ["internal/bytealg.CountString", "internal/bytealg.IndexByteString", "internal/bytealg.IndexString", "internal/abi.NoEscape", "internal/bytealg.MakeNoZero"], unfollowed := true, recurses := true, named := ["unicode/utf8.first", "unicode/utf8.acceptRanges", "internal/bytealg.MaxLen"], apart := false, laid := [("unicode/utf8.acceptRanges", laid_unicode_utf8_acceptRanges), ("unicode/utf8.first", laid_unicode_utf8_first)] }
def DivsTrueSaid : Prop := divsTrueRow.holds Tryd.pinned (OpenSpec.ofChange divsTrueSpec)

/-- ITS FALSE NEIGHBOUR: 'it returns false'. Refute it at one input. -/
def divsTrueWrong : ChangeSpec := { name := "divsTrue", fn := fun _ => fun
  | [d1, d2, d3] => { results := [.lit (.bool false)], args := [d1, d2, d3] }
  | _ => none }
def DivsTrueWrongFalsely : Prop := divsTrueRow.holds Tryd.pinned (OpenSpec.ofChange divsTrueWrong)

/-- 'cellarerlaw09.DivsApart': WHATEVER THE INPUT: true; the input reads as it did. -/
def divsApartSpec : ChangeSpec := { name := "divsApart", fn := fun _ => fun
  | [d1, d2, d3] => { results := [.lit (.bool true)], args := [d1, d2, d3] }
  | _ => none }
def divsApartRow : OpenClaim := { program := "ytlhpgbaclbkjiaadoor", sum := "d26c3e4834881622f7f800bfac5c8d2d88cbdc563e9a6a2dd5b05ce1192adc4a", func := "cellarer/cellarerlaw09.DivsApart", spec := "divsApart", inPlace := ["internal/bytealg.CountString", "internal/bytealg.IndexByteString", "internal/bytealg.IndexString", "internal/abi.NoEscape", "internal/bytealg.MakeNoZero"], unfollowed := true, recurses := true, named := ["unicode/utf8.first", "unicode/utf8.acceptRanges", "internal/bytealg.MaxLen"], apart := false, laid := [("unicode/utf8.acceptRanges", laid_unicode_utf8_acceptRanges), ("unicode/utf8.first", laid_unicode_utf8_first)] }
def DivsApartSaid : Prop := divsApartRow.holds Tryd.pinned (OpenSpec.ofChange divsApartSpec)

/-- ITS FALSE NEIGHBOUR: 'it returns false'. Refute it at one input. -/
def divsApartWrong : ChangeSpec := { name := "divsApart", fn := fun _ => fun
  | [d1, d2, d3] => { results := [.lit (.bool false)], args := [d1, d2, d3] }
  | _ => none }
def DivsApartWrongFalsely : Prop := divsApartRow.holds Tryd.pinned (OpenSpec.ofChange divsApartWrong)

/-- 'cellarerlaw09.DivsPuts': WHATEVER THE INPUT: true; the input reads as it did. -/
def divsPutsSpec : ChangeSpec := { name := "divsPuts", fn := fun _ => fun
  | [d1, d2, d3] => { results := [.lit (.bool true)], args := [d1, d2, d3] }
  | _ => none }
def divsPutsRow : OpenClaim := { program := "ytlhpgbaclbkjiaadoor", sum := "d26c3e4834881622f7f800bfac5c8d2d88cbdc563e9a6a2dd5b05ce1192adc4a", func := "cellarer/cellarerlaw09.DivsPuts", spec := "divsPuts", inPlace := ["internal/bytealg.CountString", "internal/bytealg.IndexByteString", "internal/bytealg.IndexString", "internal/abi.NoEscape", "internal/bytealg.MakeNoZero", "slices.overlaps[cellarer/api.Divert]"], unfollowed := true, recurses := true, named := ["unicode/utf8.first", "unicode/utf8.acceptRanges", "internal/bytealg.MaxLen"], apart := false, laid := [("unicode/utf8.acceptRanges", laid_unicode_utf8_acceptRanges), ("unicode/utf8.first", laid_unicode_utf8_first)] }
def DivsPutsSaid : Prop := divsPutsRow.holds Tryd.pinned (OpenSpec.ofChange divsPutsSpec)

/-- ITS FALSE NEIGHBOUR: 'it returns false'. Refute it at one input. -/
def divsPutsWrong : ChangeSpec := { name := "divsPuts", fn := fun _ => fun
  | [d1, d2, d3] => { results := [.lit (.bool false)], args := [d1, d2, d3] }
  | _ => none }
def DivsPutsWrongFalsely : Prop := divsPutsRow.holds Tryd.pinned (OpenSpec.ofChange divsPutsWrong)

/- THE SECOND FORM. 'bulk': how many values and letters a reading holds, each counted each time it is reached (what is shared counts as often as it is met; a slice's spare places count too). A statement '..UptoSaid' is the law's where the arguments, and the package variables that the reading takes, are together of bulk at most 1048576: NARROWER than '..Said'. Prove '..Said' where nothing that the law and all that it calls make is longer than what came in: it says more and counts as full. Else prove '..UptoSaid'. A law counts once. -/
mutual
def uptoBulk {H : Type} : DataW H → Nat
  | .lit (.string bytes) => bytes.length + 1
  | .lit _ => 1
  | .nil => 1
  | .ptr d => uptoBulk d + 1
  | .slice elems spare => uptoBulkAll elems + uptoBulkAll spare + 1
  | .agg parts => uptoBulkAll parts + 1
  | .iface _ d => uptoBulk d + 1
  | .map entries => uptoBulkEntries entries + 1
  | .held _ => 1
def uptoBulkAll {H : Type} : List (DataW H) → Nat
  | [] => 0
  | d :: r => uptoBulk d + uptoBulkAll r
def uptoBulkEntries {H : Type} : List (Lit × DataW H) → Nat
  | [] => 0
  | x :: r => uptoBulkEntry x + uptoBulkEntries r
def uptoBulkEntry {H : Type} : Lit × DataW H → Nat
  | (.string bytes, d) => bytes.length + uptoBulk d + 1
  | (_, d) => uptoBulk d + 1
 end
def uptoSmall : (H : Type) → List (DataW H) → Bool := fun _ ds => decide (uptoBulkAll ds ≤ 1048576)
def OpenSpec.upto (s : _root_.Go.ChangeSpec) : _root_.Go.OpenSpec := { _root_.Go.OpenSpec.ofChange s with cond := some uptoSmall }

/-- 'cellarerlaw09.DivsPrints', WHERE WHAT IT READS IS OF BULK AT MOST 1048576: true; the input reads as it did. -/
def divsPrintsUptoRow : OpenClaim := { program := "ytlhpgbaclbkjiaadoor", sum := "d26c3e4834881622f7f800bfac5c8d2d88cbdc563e9a6a2dd5b05ce1192adc4a", func := "cellarer/cellarerlaw09.DivsPrints", spec := "divsPrints", inPlace := ["internal/bytealg.CountString", "internal/bytealg.IndexByteString", "internal/bytealg.IndexString", "internal/abi.NoEscape", "internal/bytealg.MakeNoZero"], unfollowed := true, recurses := true, named := ["unicode/utf8.first", "unicode/utf8.acceptRanges", "internal/bytealg.MaxLen"], apart := false, laid := [("unicode/utf8.acceptRanges", laid_unicode_utf8_acceptRanges), ("unicode/utf8.first", laid_unicode_utf8_first)], narrowed := true }
def DivsPrintsUptoSaid : Prop := divsPrintsUptoRow.holds Tryd.pinned (OpenSpec.upto divsPrintsSpec)

/-- 'cellarerlaw09.DivsParses', WHERE WHAT IT READS IS OF BULK AT MOST 1048576: true; the input reads as it did. -/
def divsParsesUptoRow : OpenClaim := { program := "ytlhpgbaclbkjiaadoor", sum := "d26c3e4834881622f7f800bfac5c8d2d88cbdc563e9a6a2dd5b05ce1192adc4a", func := "cellarer/cellarerlaw09.DivsParses", spec := "divsParses", inPlace := ["internal/bytealg.CountString", "internal/bytealg.IndexByteString", "internal/bytealg.IndexString", "internal/abi.NoEscape", "internal/bytealg.MakeNoZero"], unfollowed := true, recurses := true, named := ["unicode/utf8.first", "unicode/utf8.acceptRanges", "internal/bytealg.MaxLen"], apart := false, laid := [("unicode/utf8.acceptRanges", laid_unicode_utf8_acceptRanges), ("unicode/utf8.first", laid_unicode_utf8_first)], narrowed := true }
def DivsParsesUptoSaid : Prop := divsParsesUptoRow.holds Tryd.pinned (OpenSpec.upto divsParsesSpec)

/-- 'cellarerlaw09.DivsTrue', WHERE WHAT IT READS IS OF BULK AT MOST 1048576: true; the input reads as it did. -/
def divsTrueUptoRow : OpenClaim := { program := "ytlhpgbaclbkjiaadoor", sum := "d26c3e4834881622f7f800bfac5c8d2d88cbdc563e9a6a2dd5b05ce1192adc4a", func := "cellarer/cellarerlaw09.DivsTrue", spec := "divsTrue", inPlace := ["internal/bytealg.CountString", "internal/bytealg.IndexByteString", "internal/bytealg.IndexString", "internal/abi.NoEscape", "internal/bytealg.MakeNoZero"], unfollowed := true, recurses := true, named := ["unicode/utf8.first", "unicode/utf8.acceptRanges", "internal/bytealg.MaxLen"], apart := false, laid := [("unicode/utf8.acceptRanges", laid_unicode_utf8_acceptRanges), ("unicode/utf8.first", laid_unicode_utf8_first)], narrowed := true }
def DivsTrueUptoSaid : Prop := divsTrueUptoRow.holds Tryd.pinned (OpenSpec.upto divsTrueSpec)

/-- 'cellarerlaw09.DivsApart', WHERE WHAT IT READS IS OF BULK AT MOST 1048576: true; the input reads as it did. -/
def divsApartUptoRow : OpenClaim := { program := "ytlhpgbaclbkjiaadoor", sum := "d26c3e4834881622f7f800bfac5c8d2d88cbdc563e9a6a2dd5b05ce1192adc4a", func := "cellarer/cellarerlaw09.DivsApart", spec := "divsApart", inPlace := ["internal/bytealg.CountString", "internal/bytealg.IndexByteString", "internal/bytealg.IndexString", "internal/abi.NoEscape", "internal/bytealg.MakeNoZero"], unfollowed := true, recurses := true, named := ["unicode/utf8.first", "unicode/utf8.acceptRanges", "internal/bytealg.MaxLen"], apart := false, laid := [("unicode/utf8.acceptRanges", laid_unicode_utf8_acceptRanges), ("unicode/utf8.first", laid_unicode_utf8_first)], narrowed := true }
def DivsApartUptoSaid : Prop := divsApartUptoRow.holds Tryd.pinned (OpenSpec.upto divsApartSpec)

/-- 'cellarerlaw09.DivsPuts', WHERE WHAT IT READS IS OF BULK AT MOST 1048576: true; the input reads as it did. -/
def divsPutsUptoRow : OpenClaim := { program := "ytlhpgbaclbkjiaadoor", sum := "d26c3e4834881622f7f800bfac5c8d2d88cbdc563e9a6a2dd5b05ce1192adc4a", func := "cellarer/cellarerlaw09.DivsPuts", spec := "divsPuts", inPlace := ["internal/bytealg.CountString", "internal/bytealg.IndexByteString", "internal/bytealg.IndexString", "internal/abi.NoEscape", "internal/bytealg.MakeNoZero", "slices.overlaps[cellarer/api.Divert]"], unfollowed := true, recurses := true, named := ["unicode/utf8.first", "unicode/utf8.acceptRanges", "internal/bytealg.MaxLen"], apart := false, laid := [("unicode/utf8.acceptRanges", laid_unicode_utf8_acceptRanges), ("unicode/utf8.first", laid_unicode_utf8_first)], narrowed := true }
def DivsPutsUptoSaid : Prop := divsPutsUptoRow.holds Tryd.pinned (OpenSpec.upto divsPutsSpec)

end Rows
end Go.Proofs.YtlhpgbaclbkjiaaDoor
