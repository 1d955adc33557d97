/-
  NARROWER THAN 'FOR EVERY INPUT', by the rows' own cells (each row's printed sentence says how): RelationTexts: laid · RelationGroups: laid · RelationLacks: laid · RelationParses: laid · RelationLists: laid.
  DERIVED. THE GIVEN ROWS OF THIS SEAT. 5 by the template 'for every input the law returns true; each argument reads behind the call as it read before'; 0 by the template 'total and deterministic' (their statements: YtjjlkckemfdckaaDoorTotals.lean).
  GIVEN WITH THE SEED: the statements are not yours to turn. If you find one false, say at which input.
  Laid BY PROGRAM, IN A SANDBOX (cutbox-rows.mjs): the forced cells as the released guide's own fill.sh prints them over the translation bd86b1149e30809f… (all of the seat's roots in one cut). By AI agents, Wed Nov 11 2026. No macro, syntax, notation, axiom, sorry.
-/
import Derived.Test.YtjjlkckemfdckaaDoorChecked
import GoSem.PinnedTables
import GoSem.Claim
import GoSem.ClaimJoined
import GoSem.ClaimMapViews
import Derived.JoinedTies
import Derived.KernelRfl
namespace Go.Proofs.YtjjlkckemfdckaaDoor
/- THE CELL 'sum', in the pinned program and in every row, IS THE sha256 OF THE DUMP (.gsa) THAT YtjjlkckemfdckaaDoorProg.lean LOADS. Nothing in Lean hashes anything: it is a label: what it is worth is what the hold of that sum in a sandbox is worth. -/
noncomputable def Tryd.pinned : Pinned := { name := "ytjjlkckemfdckaadoor", sum := "bd86b1149e30809ff9d8b2196ed5763116f43ffe0114f63cf8192d32ad13e08a", checked := Tryd.checked }
namespace Rows
def none {H : Type} : Left H := { results := [], args := [] }

/- WHAT THE LISTED PACKAGE-LEVEL VARIABLES READ AS WHEN THE CALL BEGINS. Each datum BY PROGRAM (the guide's laid-datum.mjs) off the statement by which the dump's own 'gosem.cut.vars' lays the variable. In a bare row this is a premise. The card (YtjjlkckemfdckaaDoorCards.lean) ties it to the program's text. -/
def laid_unicode_utf8_acceptRanges {H : Type} : DataW H := .agg [.agg [.lit (.int .u8 128), .lit (.int .u8 191)], .agg [.lit (.int .u8 160), .lit (.int .u8 191)], .agg [.lit (.int .u8 128), .lit (.int .u8 159)], .agg [.lit (.int .u8 144), .lit (.int .u8 191)], .agg [.lit (.int .u8 128), .lit (.int .u8 143)], .agg [.lit (.int .u8 0), .lit (.int .u8 0)], .agg [.lit (.int .u8 0), .lit (.int .u8 0)], .agg [.lit (.int .u8 0), .lit (.int .u8 0)], .agg [.lit (.int .u8 0), .lit (.int .u8 0)], .agg [.lit (.int .u8 0), .lit (.int .u8 0)], .agg [.lit (.int .u8 0), .lit (.int .u8 0)], .agg [.lit (.int .u8 0), .lit (.int .u8 0)], .agg [.lit (.int .u8 0), .lit (.int .u8 0)], .agg [.lit (.int .u8 0), .lit (.int .u8 0)], .agg [.lit (.int .u8 0), .lit (.int .u8 0)], .agg [.lit (.int .u8 0), .lit (.int .u8 0)]]
/-- One of Go's own tables, pinned by name: the form's constant. -/
def laid_unicode_utf8_first : DataW Unit := Go.Pinned.utf8First

/-- 'cellarerlaw07.RelationTexts': WHATEVER THE INPUT: true; the input reads as it did. -/
def relationTextsSpec : ChangeSpec := { name := "relationTexts", fn := fun _ => fun
  | [d1, d2] => { results := [.lit (.bool true)], args := [d1, d2] }
  | _ => none }
def relationTextsRow : OpenClaim := { program := "ytjjlkckemfdckaadoor", sum := "bd86b1149e30809ff9d8b2196ed5763116f43ffe0114f63cf8192d32ad13e08a", func := "cellarer/cellarerlaw07.RelationTexts", spec := "relationTexts", inPlace := ["internal/bytealg.CountString", "internal/bytealg.IndexByteString", "internal/bytealg.IndexString", "internal/abi.NoEscape", "internal/bytealg.MakeNoZero"], unfollowed := true, recurses := true, named := ["unicode/utf8.first", "unicode/utf8.acceptRanges", "internal/bytealg.MaxLen"], apart := false, laid := [("unicode/utf8.acceptRanges", laid_unicode_utf8_acceptRanges), ("unicode/utf8.first", laid_unicode_utf8_first)] }
def RelationTextsSaid : Prop := relationTextsRow.holds Tryd.pinned (OpenSpec.ofChange relationTextsSpec)

/-- ITS FALSE NEIGHBOUR: 'it returns false'. Refute it at one input. -/
def relationTextsWrong : ChangeSpec := { name := "relationTexts", fn := fun _ => fun
  | [d1, d2] => { results := [.lit (.bool false)], args := [d1, d2] }
  | _ => none }
def RelationTextsWrongFalsely : Prop := relationTextsRow.holds Tryd.pinned (OpenSpec.ofChange relationTextsWrong)

/-- 'cellarerlaw07.RelationGroups': WHATEVER THE INPUT: true; the input reads as it did. -/
def relationGroupsSpec : ChangeSpec := { name := "relationGroups", fn := fun _ => fun
  | [d] => { results := [.lit (.bool true)], args := [d] }
  | _ => none }
def relationGroupsRow : OpenClaim := { program := "ytjjlkckemfdckaadoor", sum := "bd86b1149e30809ff9d8b2196ed5763116f43ffe0114f63cf8192d32ad13e08a", func := "cellarer/cellarerlaw07.RelationGroups", spec := "relationGroups", inPlace := ["internal/bytealg.CountString", "internal/bytealg.IndexByteString", "internal/bytealg.IndexString", "internal/abi.NoEscape", "internal/bytealg.MakeNoZero"], unfollowed := true, recurses := true, named := ["unicode/utf8.first", "unicode/utf8.acceptRanges", "internal/bytealg.MaxLen"], apart := false, laid := [("unicode/utf8.acceptRanges", laid_unicode_utf8_acceptRanges), ("unicode/utf8.first", laid_unicode_utf8_first)] }
def RelationGroupsSaid : Prop := relationGroupsRow.holds Tryd.pinned (OpenSpec.ofChange relationGroupsSpec)

/-- ITS FALSE NEIGHBOUR: 'it returns false'. Refute it at one input. -/
def relationGroupsWrong : ChangeSpec := { name := "relationGroups", fn := fun _ => fun
  | [d] => { results := [.lit (.bool false)], args := [d] }
  | _ => none }
def RelationGroupsWrongFalsely : Prop := relationGroupsRow.holds Tryd.pinned (OpenSpec.ofChange relationGroupsWrong)

/-- 'cellarerlaw07.RelationLacks': WHATEVER THE INPUT: true; the input reads as it did. -/
def relationLacksSpec : ChangeSpec := { name := "relationLacks", fn := fun _ => fun
  | [d1, d2, d3] => { results := [.lit (.bool true)], args := [d1, d2, d3] }
  | _ => none }
def relationLacksRow : OpenClaim := { program := "ytjjlkckemfdckaadoor", sum := "bd86b1149e30809ff9d8b2196ed5763116f43ffe0114f63cf8192d32ad13e08a", func := "cellarer/cellarerlaw07.RelationLacks", spec := "relationLacks", inPlace := ["internal/bytealg.CountString", "internal/bytealg.IndexByteString", "internal/bytealg.IndexString", "internal/abi.NoEscape", "internal/bytealg.MakeNoZero"], unfollowed := true, recurses := true, named := ["unicode/utf8.first", "unicode/utf8.acceptRanges", "internal/bytealg.MaxLen"], apart := false, laid := [("unicode/utf8.acceptRanges", laid_unicode_utf8_acceptRanges), ("unicode/utf8.first", laid_unicode_utf8_first)] }
def RelationLacksSaid : Prop := relationLacksRow.holds Tryd.pinned (OpenSpec.ofChange relationLacksSpec)

/-- ITS FALSE NEIGHBOUR: 'it returns false'. Refute it at one input. -/
def relationLacksWrong : ChangeSpec := { name := "relationLacks", fn := fun _ => fun
  | [d1, d2, d3] => { results := [.lit (.bool false)], args := [d1, d2, d3] }
  | _ => none }
def RelationLacksWrongFalsely : Prop := relationLacksRow.holds Tryd.pinned (OpenSpec.ofChange relationLacksWrong)

/-- 'cellarerlaw07.RelationParses': WHATEVER THE INPUT: true; the input reads as it did. -/
def relationParsesSpec : ChangeSpec := { name := "relationParses", fn := fun _ => fun
  | [d] => { results := [.lit (.bool true)], args := [d] }
  | _ => none }
def relationParsesRow : OpenClaim := { program := "ytjjlkckemfdckaadoor", sum := "bd86b1149e30809ff9d8b2196ed5763116f43ffe0114f63cf8192d32ad13e08a", func := "cellarer/cellarerlaw07.RelationParses", spec := "relationParses", inPlace := ["internal/bytealg.CountString", "internal/bytealg.IndexByteString", "internal/bytealg.IndexString", "internal/abi.NoEscape", "internal/bytealg.MakeNoZero"], unfollowed := true, recurses := true, named := ["unicode/utf8.first", "unicode/utf8.acceptRanges", "internal/bytealg.MaxLen"], apart := false, laid := [("unicode/utf8.acceptRanges", laid_unicode_utf8_acceptRanges), ("unicode/utf8.first", laid_unicode_utf8_first)] }
def RelationParsesSaid : Prop := relationParsesRow.holds Tryd.pinned (OpenSpec.ofChange relationParsesSpec)

/-- ITS FALSE NEIGHBOUR: 'it returns false'. Refute it at one input. -/
def relationParsesWrong : ChangeSpec := { name := "relationParses", fn := fun _ => fun
  | [d] => { results := [.lit (.bool false)], args := [d] }
  | _ => none }
def RelationParsesWrongFalsely : Prop := relationParsesRow.holds Tryd.pinned (OpenSpec.ofChange relationParsesWrong)

/-- 'cellarerlaw07.RelationLists': WHATEVER THE INPUT: true; the input reads as it did. -/
def relationListsSpec : ChangeSpec := { name := "relationLists", fn := fun _ => fun
  | [d] => { results := [.lit (.bool true)], args := [d] }
  | _ => none }
def relationListsRow : OpenClaim := { program := "ytjjlkckemfdckaadoor", sum := "bd86b1149e30809ff9d8b2196ed5763116f43ffe0114f63cf8192d32ad13e08a", func := "cellarer/cellarerlaw07.RelationLists", spec := "relationLists", inPlace := ["internal/bytealg.CountString", "internal/bytealg.IndexByteString", "internal/bytealg.IndexString", "internal/abi.NoEscape", "internal/bytealg.MakeNoZero"], unfollowed := true, recurses := true, named := ["unicode/utf8.first", "unicode/utf8.acceptRanges", "internal/bytealg.MaxLen"], apart := false, laid := [("unicode/utf8.acceptRanges", laid_unicode_utf8_acceptRanges), ("unicode/utf8.first", laid_unicode_utf8_first)] }
def RelationListsSaid : Prop := relationListsRow.holds Tryd.pinned (OpenSpec.ofChange relationListsSpec)

/-- ITS FALSE NEIGHBOUR: 'it returns false'. Refute it at one input. -/
def relationListsWrong : ChangeSpec := { name := "relationLists", fn := fun _ => fun
  | [d] => { results := [.lit (.bool false)], args := [d] }
  | _ => none }
def RelationListsWrongFalsely : Prop := relationListsRow.holds Tryd.pinned (OpenSpec.ofChange relationListsWrong)

/- THE SECOND FORM. 'bulk': how many values and letters a reading holds, each counted each time it is reached (what is shared counts as often as it is met; a slice's spare places count too). A statement '..UptoSaid' is the law's where the arguments, and the package variables that the reading takes, are together of bulk at most 1048576: NARROWER than '..Said'. Prove '..Said' where nothing that the law and all that it calls make is longer than what came in: it says more and counts as full. Else prove '..UptoSaid'. A law counts once. -/
mutual
def uptoBulk {H : Type} : DataW H → Nat
  | .lit (.string bytes) => bytes.length + 1
  | .lit _ => 1
  | .nil => 1
  | .ptr d => uptoBulk d + 1
  | .slice elems spare => uptoBulkAll elems + uptoBulkAll spare + 1
  | .agg parts => uptoBulkAll parts + 1
  | .iface _ d => uptoBulk d + 1
  | .map entries => uptoBulkEntries entries + 1
  | .held _ => 1
def uptoBulkAll {H : Type} : List (DataW H) → Nat
  | [] => 0
  | d :: r => uptoBulk d + uptoBulkAll r
def uptoBulkEntries {H : Type} : List (Lit × DataW H) → Nat
  | [] => 0
  | x :: r => uptoBulkEntry x + uptoBulkEntries r
def uptoBulkEntry {H : Type} : Lit × DataW H → Nat
  | (.string bytes, d) => bytes.length + uptoBulk d + 1
  | (_, d) => uptoBulk d + 1
 end
def uptoSmall : (H : Type) → List (DataW H) → Bool := fun _ ds => decide (uptoBulkAll ds ≤ 1048576)
def OpenSpec.upto (s : _root_.Go.ChangeSpec) : _root_.Go.OpenSpec := { _root_.Go.OpenSpec.ofChange s with cond := some uptoSmall }

/-- 'cellarerlaw07.RelationTexts', WHERE WHAT IT READS IS OF BULK AT MOST 1048576: true; the input reads as it did. -/
def relationTextsUptoRow : OpenClaim := { program := "ytjjlkckemfdckaadoor", sum := "bd86b1149e30809ff9d8b2196ed5763116f43ffe0114f63cf8192d32ad13e08a", func := "cellarer/cellarerlaw07.RelationTexts", spec := "relationTexts", inPlace := ["internal/bytealg.CountString", "internal/bytealg.IndexByteString", "internal/bytealg.IndexString", "internal/abi.NoEscape", "internal/bytealg.MakeNoZero"], unfollowed := true, recurses := true, named := ["unicode/utf8.first", "unicode/utf8.acceptRanges", "internal/bytealg.MaxLen"], apart := false, laid := [("unicode/utf8.acceptRanges", laid_unicode_utf8_acceptRanges), ("unicode/utf8.first", laid_unicode_utf8_first)], narrowed := true }
def RelationTextsUptoSaid : Prop := relationTextsUptoRow.holds Tryd.pinned (OpenSpec.upto relationTextsSpec)

/-- 'cellarerlaw07.RelationGroups', WHERE WHAT IT READS IS OF BULK AT MOST 1048576: true; the input reads as it did. -/
def relationGroupsUptoRow : OpenClaim := { program := "ytjjlkckemfdckaadoor", sum := "bd86b1149e30809ff9d8b2196ed5763116f43ffe0114f63cf8192d32ad13e08a", func := "cellarer/cellarerlaw07.RelationGroups", spec := "relationGroups", inPlace := ["internal/bytealg.CountString", "internal/bytealg.IndexByteString", "internal/bytealg.IndexString", "internal/abi.NoEscape", "internal/bytealg.MakeNoZero"], unfollowed := true, recurses := true, named := ["unicode/utf8.first", "unicode/utf8.acceptRanges", "internal/bytealg.MaxLen"], apart := false, laid := [("unicode/utf8.acceptRanges", laid_unicode_utf8_acceptRanges), ("unicode/utf8.first", laid_unicode_utf8_first)], narrowed := true }
def RelationGroupsUptoSaid : Prop := relationGroupsUptoRow.holds Tryd.pinned (OpenSpec.upto relationGroupsSpec)

/-- 'cellarerlaw07.RelationLacks', WHERE WHAT IT READS IS OF BULK AT MOST 1048576: true; the input reads as it did. -/
def relationLacksUptoRow : OpenClaim := { program := "ytjjlkckemfdckaadoor", sum := "bd86b1149e30809ff9d8b2196ed5763116f43ffe0114f63cf8192d32ad13e08a", func := "cellarer/cellarerlaw07.RelationLacks", spec := "relationLacks", inPlace := ["internal/bytealg.CountString", "internal/bytealg.IndexByteString", "internal/bytealg.IndexString", "internal/abi.NoEscape", "internal/bytealg.MakeNoZero"], unfollowed := true, recurses := true, named := ["unicode/utf8.first", "unicode/utf8.acceptRanges", "internal/bytealg.MaxLen"], apart := false, laid := [("unicode/utf8.acceptRanges", laid_unicode_utf8_acceptRanges), ("unicode/utf8.first", laid_unicode_utf8_first)], narrowed := true }
def RelationLacksUptoSaid : Prop := relationLacksUptoRow.holds Tryd.pinned (OpenSpec.upto relationLacksSpec)

/-- 'cellarerlaw07.RelationParses', WHERE WHAT IT READS IS OF BULK AT MOST 1048576: true; the input reads as it did. -/
def relationParsesUptoRow : OpenClaim := { program := "ytjjlkckemfdckaadoor", sum := "bd86b1149e30809ff9d8b2196ed5763116f43ffe0114f63cf8192d32ad13e08a", func := "cellarer/cellarerlaw07.RelationParses", spec := "relationParses", inPlace := ["internal/bytealg.CountString", "internal/bytealg.IndexByteString", "internal/bytealg.IndexString", "internal/abi.NoEscape", "internal/bytealg.MakeNoZero"], unfollowed := true, recurses := true, named := ["unicode/utf8.first", "unicode/utf8.acceptRanges", "internal/bytealg.MaxLen"], apart := false, laid := [("unicode/utf8.acceptRanges", laid_unicode_utf8_acceptRanges), ("unicode/utf8.first", laid_unicode_utf8_first)], narrowed := true }
def RelationParsesUptoSaid : Prop := relationParsesUptoRow.holds Tryd.pinned (OpenSpec.upto relationParsesSpec)

/-- 'cellarerlaw07.RelationLists', WHERE WHAT IT READS IS OF BULK AT MOST 1048576: true; the input reads as it did. -/
def relationListsUptoRow : OpenClaim := { program := "ytjjlkckemfdckaadoor", sum := "bd86b1149e30809ff9d8b2196ed5763116f43ffe0114f63cf8192d32ad13e08a", func := "cellarer/cellarerlaw07.RelationLists", spec := "relationLists", inPlace := ["internal/bytealg.CountString", "internal/bytealg.IndexByteString", "internal/bytealg.IndexString", "internal/abi.NoEscape", "internal/bytealg.MakeNoZero"], unfollowed := true, recurses := true, named := ["unicode/utf8.first", "unicode/utf8.acceptRanges", "internal/bytealg.MaxLen"], apart := false, laid := [("unicode/utf8.acceptRanges", laid_unicode_utf8_acceptRanges), ("unicode/utf8.first", laid_unicode_utf8_first)], narrowed := true }
def RelationListsUptoSaid : Prop := relationListsUptoRow.holds Tryd.pinned (OpenSpec.upto relationListsSpec)

end Rows
end Go.Proofs.YtjjlkckemfdckaaDoor
