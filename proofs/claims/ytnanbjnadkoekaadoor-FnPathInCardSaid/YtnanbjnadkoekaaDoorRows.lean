/-
  NARROWER THAN 'FOR EVERY INPUT', by the rows' own cells (each row's printed sentence says how): FnExactPathOk: laid · FnExactPathIn: laid · FnPathIn: laid · FnExactTreeOk: laid · FnExactTreeUnder: laid · FnExactTreeDrop: laid · FnExactTreeGet: laid · FnExactTreeSet: laid · FnExactTreeMove: laid.
  DERIVED. THE GIVEN ROWS OF THIS SEAT. 9 by the template 'for every input the law returns true; each argument reads behind the call as it read before'; 0 by the template 'total and deterministic' (their statements: YtnanbjnadkoekaaDoorTotals.lean).
  GIVEN WITH THE SEED: the statements are not yours to turn. If you find one false, say at which input.
  Laid BY PROGRAM, IN A SANDBOX (cutbox-rows.mjs): the forced cells as the released guide's own fill.sh prints them over the translation e3602125dea10fe8… (all of the seat's roots in one cut). By AI agents, Wed Nov 11 2026. No macro, syntax, notation, axiom, sorry.
-/
import Derived.Test.YtnanbjnadkoekaaDoorChecked
import GoSem.PinnedTables
import GoSem.Claim
import GoSem.ClaimJoined
import GoSem.ClaimMapViews
import Derived.JoinedTies
import Derived.KernelRfl
namespace Go.Proofs.YtnanbjnadkoekaaDoor
/- THE CELL 'sum', in the pinned program and in every row, IS THE sha256 OF THE DUMP (.gsa) THAT YtnanbjnadkoekaaDoorProg.lean LOADS. Nothing in Lean hashes anything: it is a label: what it is worth is what the hold of that sum in a sandbox is worth. -/
noncomputable def Tryd.pinned : Pinned := { name := "ytnanbjnadkoekaadoor", sum := "e3602125dea10fe82e80f9e8c97206712a97b95f3d90b64a460d9691a8079c0a", checked := Tryd.checked }
namespace Rows
def none {H : Type} : Left H := { results := [], args := [] }

/- WHAT THE LISTED PACKAGE-LEVEL VARIABLES READ AS WHEN THE CALL BEGINS. Each datum BY PROGRAM (the guide's laid-datum.mjs) off the statement by which the dump's own 'gosem.cut.vars' lays the variable. In a bare row this is a premise. The card (YtnanbjnadkoekaaDoorCards.lean) ties it to the program's text. -/
def laid_unicode_utf8_acceptRanges {H : Type} : DataW H := .agg [.agg [.lit (.int .u8 128), .lit (.int .u8 191)], .agg [.lit (.int .u8 160), .lit (.int .u8 191)], .agg [.lit (.int .u8 128), .lit (.int .u8 159)], .agg [.lit (.int .u8 144), .lit (.int .u8 191)], .agg [.lit (.int .u8 128), .lit (.int .u8 143)], .agg [.lit (.int .u8 0), .lit (.int .u8 0)], .agg [.lit (.int .u8 0), .lit (.int .u8 0)], .agg [.lit (.int .u8 0), .lit (.int .u8 0)], .agg [.lit (.int .u8 0), .lit (.int .u8 0)], .agg [.lit (.int .u8 0), .lit (.int .u8 0)], .agg [.lit (.int .u8 0), .lit (.int .u8 0)], .agg [.lit (.int .u8 0), .lit (.int .u8 0)], .agg [.lit (.int .u8 0), .lit (.int .u8 0)], .agg [.lit (.int .u8 0), .lit (.int .u8 0)], .agg [.lit (.int .u8 0), .lit (.int .u8 0)], .agg [.lit (.int .u8 0), .lit (.int .u8 0)]]
/-- One of Go's own tables, pinned by name: the form's constant. -/
def laid_unicode_utf8_first : DataW Unit := Go.Pinned.utf8First

/-- 'laws.FnExactPathOk': WHATEVER THE INPUT: true; the input reads as it did. -/
def fnExactPathOkSpec : ChangeSpec := { name := "fnExactPathOk", fn := fun _ => fun
  | [d] => { results := [.lit (.bool true)], args := [d] }
  | _ => none }
def fnExactPathOkRow : OpenClaim := { program := "ytnanbjnadkoekaadoor", sum := "e3602125dea10fe82e80f9e8c97206712a97b95f3d90b64a460d9691a8079c0a", func := "loop.example/stemma/laws.FnExactPathOk", spec := "fnExactPathOk", inPlace := ["internal/bytealg.CountString", "internal/bytealg.IndexByteString", "internal/bytealg.IndexString"], unfollowed := true, recurses := true, named := ["unicode/utf8.first", "unicode/utf8.acceptRanges", "internal/bytealg.MaxLen"], apart := false, laid := [("unicode/utf8.acceptRanges", laid_unicode_utf8_acceptRanges), ("unicode/utf8.first", laid_unicode_utf8_first)] }
def FnExactPathOkSaid : Prop := fnExactPathOkRow.holds Tryd.pinned (OpenSpec.ofChange fnExactPathOkSpec)

/-- ITS FALSE NEIGHBOUR: 'it returns false'. Refute it at one input. -/
def fnExactPathOkWrong : ChangeSpec := { name := "fnExactPathOk", fn := fun _ => fun
  | [d] => { results := [.lit (.bool false)], args := [d] }
  | _ => none }
def FnExactPathOkWrongFalsely : Prop := fnExactPathOkRow.holds Tryd.pinned (OpenSpec.ofChange fnExactPathOkWrong)

/-- 'laws.FnExactPathIn': WHATEVER THE INPUT: true; the input reads as it did. -/
def fnExactPathInSpec : ChangeSpec := { name := "fnExactPathIn", fn := fun _ => fun
  | [d1, d2] => { results := [.lit (.bool true)], args := [d1, d2] }
  | _ => none }
def fnExactPathInRow : OpenClaim := { program := "ytnanbjnadkoekaadoor", sum := "e3602125dea10fe82e80f9e8c97206712a97b95f3d90b64a460d9691a8079c0a", func := "loop.example/stemma/laws.FnExactPathIn", spec := "fnExactPathIn", inPlace := ["internal/bytealg.CountString", "internal/bytealg.IndexByteString", "internal/bytealg.IndexString"], unfollowed := true, recurses := true, named := ["unicode/utf8.first", "unicode/utf8.acceptRanges", "internal/bytealg.MaxLen"], apart := false, laid := [("unicode/utf8.acceptRanges", laid_unicode_utf8_acceptRanges), ("unicode/utf8.first", laid_unicode_utf8_first)] }
def FnExactPathInSaid : Prop := fnExactPathInRow.holds Tryd.pinned (OpenSpec.ofChange fnExactPathInSpec)

/-- ITS FALSE NEIGHBOUR: 'it returns false'. Refute it at one input. -/
def fnExactPathInWrong : ChangeSpec := { name := "fnExactPathIn", fn := fun _ => fun
  | [d1, d2] => { results := [.lit (.bool false)], args := [d1, d2] }
  | _ => none }
def FnExactPathInWrongFalsely : Prop := fnExactPathInRow.holds Tryd.pinned (OpenSpec.ofChange fnExactPathInWrong)

/-- 'laws.FnPathIn': WHATEVER THE INPUT: true; the input reads as it did. -/
def fnPathInSpec : ChangeSpec := { name := "fnPathIn", fn := fun _ => fun
  | [d1, d2] => { results := [.lit (.bool true)], args := [d1, d2] }
  | _ => none }
def fnPathInRow : OpenClaim := { program := "ytnanbjnadkoekaadoor", sum := "e3602125dea10fe82e80f9e8c97206712a97b95f3d90b64a460d9691a8079c0a", func := "loop.example/stemma/laws.FnPathIn", spec := "fnPathIn", inPlace := ["internal/bytealg.CountString", "internal/bytealg.IndexByteString", "internal/bytealg.IndexString"], unfollowed := true, recurses := true, named := ["unicode/utf8.first", "unicode/utf8.acceptRanges", "internal/bytealg.MaxLen"], apart := false, laid := [("unicode/utf8.acceptRanges", laid_unicode_utf8_acceptRanges), ("unicode/utf8.first", laid_unicode_utf8_first)] }
def FnPathInSaid : Prop := fnPathInRow.holds Tryd.pinned (OpenSpec.ofChange fnPathInSpec)

/-- ITS FALSE NEIGHBOUR: 'it returns false'. Refute it at one input. -/
def fnPathInWrong : ChangeSpec := { name := "fnPathIn", fn := fun _ => fun
  | [d1, d2] => { results := [.lit (.bool false)], args := [d1, d2] }
  | _ => none }
def FnPathInWrongFalsely : Prop := fnPathInRow.holds Tryd.pinned (OpenSpec.ofChange fnPathInWrong)

/-- 'laws.FnExactTreeOk': WHATEVER THE INPUT: true; the input reads as it did. -/
def fnExactTreeOkSpec : ChangeSpec := { name := "fnExactTreeOk", fn := fun _ => fun
  | [d] => { results := [.lit (.bool true)], args := [d] }
  | _ => none }
def fnExactTreeOkRow : OpenClaim := { program := "ytnanbjnadkoekaadoor", sum := "e3602125dea10fe82e80f9e8c97206712a97b95f3d90b64a460d9691a8079c0a", func := "loop.example/stemma/laws.FnExactTreeOk", spec := "fnExactTreeOk", inPlace := ["internal/bytealg.CountString", "internal/bytealg.IndexByteString", "internal/bytealg.IndexString"], unfollowed := true, recurses := true, named := ["unicode/utf8.first", "unicode/utf8.acceptRanges", "internal/bytealg.MaxLen"], apart := false, laid := [("unicode/utf8.acceptRanges", laid_unicode_utf8_acceptRanges), ("unicode/utf8.first", laid_unicode_utf8_first)] }
def FnExactTreeOkSaid : Prop := fnExactTreeOkRow.holds Tryd.pinned (OpenSpec.ofChange fnExactTreeOkSpec)

/-- ITS FALSE NEIGHBOUR: 'it returns false'. Refute it at one input. -/
def fnExactTreeOkWrong : ChangeSpec := { name := "fnExactTreeOk", fn := fun _ => fun
  | [d] => { results := [.lit (.bool false)], args := [d] }
  | _ => none }
def FnExactTreeOkWrongFalsely : Prop := fnExactTreeOkRow.holds Tryd.pinned (OpenSpec.ofChange fnExactTreeOkWrong)

/-- 'laws.FnExactTreeUnder': WHATEVER THE INPUT: true; the input reads as it did. -/
def fnExactTreeUnderSpec : ChangeSpec := { name := "fnExactTreeUnder", fn := fun _ => fun
  | [d1, d2] => { results := [.lit (.bool true)], args := [d1, d2] }
  | _ => none }
def fnExactTreeUnderRow : OpenClaim := { program := "ytnanbjnadkoekaadoor", sum := "e3602125dea10fe82e80f9e8c97206712a97b95f3d90b64a460d9691a8079c0a", func := "loop.example/stemma/laws.FnExactTreeUnder", spec := "fnExactTreeUnder", inPlace := ["internal/bytealg.CountString", "internal/bytealg.IndexByteString", "internal/bytealg.IndexString"], unfollowed := true, recurses := true, named := ["unicode/utf8.first", "unicode/utf8.acceptRanges", "internal/bytealg.MaxLen"], apart := false, laid := [("unicode/utf8.acceptRanges", laid_unicode_utf8_acceptRanges), ("unicode/utf8.first", laid_unicode_utf8_first)] }
def FnExactTreeUnderSaid : Prop := fnExactTreeUnderRow.holds Tryd.pinned (OpenSpec.ofChange fnExactTreeUnderSpec)

/-- ITS FALSE NEIGHBOUR: 'it returns false'. Refute it at one input. -/
def fnExactTreeUnderWrong : ChangeSpec := { name := "fnExactTreeUnder", fn := fun _ => fun
  | [d1, d2] => { results := [.lit (.bool false)], args := [d1, d2] }
  | _ => none }
def FnExactTreeUnderWrongFalsely : Prop := fnExactTreeUnderRow.holds Tryd.pinned (OpenSpec.ofChange fnExactTreeUnderWrong)

/-- 'laws.FnExactTreeDrop': WHATEVER THE INPUT: true; the input reads as it did. -/
def fnExactTreeDropSpec : ChangeSpec := { name := "fnExactTreeDrop", fn := fun _ => fun
  | [d1, d2] => { results := [.lit (.bool true)], args := [d1, d2] }
  | _ => none }
def fnExactTreeDropRow : OpenClaim := { program := "ytnanbjnadkoekaadoor", sum := "e3602125dea10fe82e80f9e8c97206712a97b95f3d90b64a460d9691a8079c0a", func := "loop.example/stemma/laws.FnExactTreeDrop", spec := "fnExactTreeDrop", inPlace := ["internal/bytealg.CountString", "internal/bytealg.IndexByteString", "internal/bytealg.IndexString"], unfollowed := true, recurses := true, named := ["unicode/utf8.first", "unicode/utf8.acceptRanges", "internal/bytealg.MaxLen"], apart := false, laid := [("unicode/utf8.acceptRanges", laid_unicode_utf8_acceptRanges), ("unicode/utf8.first", laid_unicode_utf8_first)] }
def FnExactTreeDropSaid : Prop := fnExactTreeDropRow.holds Tryd.pinned (OpenSpec.ofChange fnExactTreeDropSpec)

/-- ITS FALSE NEIGHBOUR: 'it returns false'. Refute it at one input. -/
def fnExactTreeDropWrong : ChangeSpec := { name := "fnExactTreeDrop", fn := fun _ => fun
  | [d1, d2] => { results := [.lit (.bool false)], args := [d1, d2] }
  | _ => none }
def FnExactTreeDropWrongFalsely : Prop := fnExactTreeDropRow.holds Tryd.pinned (OpenSpec.ofChange fnExactTreeDropWrong)

/-- 'laws.FnExactTreeGet': WHATEVER THE INPUT: true; the input reads as it did. -/
def fnExactTreeGetSpec : ChangeSpec := { name := "fnExactTreeGet", fn := fun _ => fun
  | [d1, d2] => { results := [.lit (.bool true)], args := [d1, d2] }
  | _ => none }
def fnExactTreeGetRow : OpenClaim := { program := "ytnanbjnadkoekaadoor", sum := "e3602125dea10fe82e80f9e8c97206712a97b95f3d90b64a460d9691a8079c0a", func := "loop.example/stemma/laws.FnExactTreeGet", spec := "fnExactTreeGet", inPlace := ["internal/bytealg.CountString", "internal/bytealg.IndexByteString", "internal/bytealg.IndexString"], unfollowed := true, recurses := true, named := ["unicode/utf8.first", "unicode/utf8.acceptRanges", "internal/bytealg.MaxLen"], apart := false, laid := [("unicode/utf8.acceptRanges", laid_unicode_utf8_acceptRanges), ("unicode/utf8.first", laid_unicode_utf8_first)] }
def FnExactTreeGetSaid : Prop := fnExactTreeGetRow.holds Tryd.pinned (OpenSpec.ofChange fnExactTreeGetSpec)

/-- ITS FALSE NEIGHBOUR: 'it returns false'. Refute it at one input. -/
def fnExactTreeGetWrong : ChangeSpec := { name := "fnExactTreeGet", fn := fun _ => fun
  | [d1, d2] => { results := [.lit (.bool false)], args := [d1, d2] }
  | _ => none }
def FnExactTreeGetWrongFalsely : Prop := fnExactTreeGetRow.holds Tryd.pinned (OpenSpec.ofChange fnExactTreeGetWrong)

/-- 'laws.FnExactTreeSet': WHATEVER THE INPUT: true; the input reads as it did. -/
def fnExactTreeSetSpec : ChangeSpec := { name := "fnExactTreeSet", fn := fun _ => fun
  | [d1, d2] => { results := [.lit (.bool true)], args := [d1, d2] }
  | _ => none }
def fnExactTreeSetRow : OpenClaim := { program := "ytnanbjnadkoekaadoor", sum := "e3602125dea10fe82e80f9e8c97206712a97b95f3d90b64a460d9691a8079c0a", func := "loop.example/stemma/laws.FnExactTreeSet", spec := "fnExactTreeSet", inPlace := ["internal/bytealg.CountString", "internal/bytealg.IndexByteString", "internal/bytealg.IndexString", "slices.overlaps[loop.example/stemma/impl.File]"], unfollowed := true, recurses := true, named := ["unicode/utf8.first", "unicode/utf8.acceptRanges", "internal/bytealg.MaxLen"], apart := false, laid := [("unicode/utf8.acceptRanges", laid_unicode_utf8_acceptRanges), ("unicode/utf8.first", laid_unicode_utf8_first)] }
def FnExactTreeSetSaid : Prop := fnExactTreeSetRow.holds Tryd.pinned (OpenSpec.ofChange fnExactTreeSetSpec)

/-- ITS FALSE NEIGHBOUR: 'it returns false'. Refute it at one input. -/
def fnExactTreeSetWrong : ChangeSpec := { name := "fnExactTreeSet", fn := fun _ => fun
  | [d1, d2] => { results := [.lit (.bool false)], args := [d1, d2] }
  | _ => none }
def FnExactTreeSetWrongFalsely : Prop := fnExactTreeSetRow.holds Tryd.pinned (OpenSpec.ofChange fnExactTreeSetWrong)

/-- 'laws.FnExactTreeMove': WHATEVER THE INPUT: true; the input reads as it did. -/
def fnExactTreeMoveSpec : ChangeSpec := { name := "fnExactTreeMove", fn := fun _ => fun
  | [d1, d2, d3] => { results := [.lit (.bool true)], args := [d1, d2, d3] }
  | _ => none }
def fnExactTreeMoveRow : OpenClaim := { program := "ytnanbjnadkoekaadoor", sum := "e3602125dea10fe82e80f9e8c97206712a97b95f3d90b64a460d9691a8079c0a", func := "loop.example/stemma/laws.FnExactTreeMove", spec := "fnExactTreeMove", inPlace := ["internal/bytealg.CountString", "internal/bytealg.IndexByteString", "internal/bytealg.IndexString"], unfollowed := true, recurses := true, named := ["unicode/utf8.first", "unicode/utf8.acceptRanges", "internal/bytealg.MaxLen"], apart := false, laid := [("unicode/utf8.acceptRanges", laid_unicode_utf8_acceptRanges), ("unicode/utf8.first", laid_unicode_utf8_first)] }
def FnExactTreeMoveSaid : Prop := fnExactTreeMoveRow.holds Tryd.pinned (OpenSpec.ofChange fnExactTreeMoveSpec)

/-- ITS FALSE NEIGHBOUR: 'it returns false'. Refute it at one input. -/
def fnExactTreeMoveWrong : ChangeSpec := { name := "fnExactTreeMove", fn := fun _ => fun
  | [d1, d2, d3] => { results := [.lit (.bool false)], args := [d1, d2, d3] }
  | _ => none }
def FnExactTreeMoveWrongFalsely : Prop := fnExactTreeMoveRow.holds Tryd.pinned (OpenSpec.ofChange fnExactTreeMoveWrong)

/- THE SECOND FORM. 'bulk': how many values and letters a reading holds, each counted each time it is reached (what is shared counts as often as it is met; a slice's spare places count too). A statement '..UptoSaid' is the law's where the arguments, and the package variables that the reading takes, are together of bulk at most 1048576: NARROWER than '..Said'. Prove '..Said' where nothing that the law and all that it calls make is longer than what came in: it says more and counts as full. Else prove '..UptoSaid'. A law counts once. -/
mutual
def uptoBulk {H : Type} : DataW H → Nat
  | .lit (.string bytes) => bytes.length + 1
  | .lit _ => 1
  | .nil => 1
  | .ptr d => uptoBulk d + 1
  | .slice elems spare => uptoBulkAll elems + uptoBulkAll spare + 1
  | .agg parts => uptoBulkAll parts + 1
  | .iface _ d => uptoBulk d + 1
  | .map entries => uptoBulkEntries entries + 1
  | .held _ => 1
def uptoBulkAll {H : Type} : List (DataW H) → Nat
  | [] => 0
  | d :: r => uptoBulk d + uptoBulkAll r
def uptoBulkEntries {H : Type} : List (Lit × DataW H) → Nat
  | [] => 0
  | x :: r => uptoBulkEntry x + uptoBulkEntries r
def uptoBulkEntry {H : Type} : Lit × DataW H → Nat
  | (.string bytes, d) => bytes.length + uptoBulk d + 1
  | (_, d) => uptoBulk d + 1
 end
def uptoSmall : (H : Type) → List (DataW H) → Bool := fun _ ds => decide (uptoBulkAll ds ≤ 1048576)
def OpenSpec.upto (s : _root_.Go.ChangeSpec) : _root_.Go.OpenSpec := { _root_.Go.OpenSpec.ofChange s with cond := some uptoSmall }

/-- 'laws.FnExactPathOk', WHERE WHAT IT READS IS OF BULK AT MOST 1048576: true; the input reads as it did. -/
def fnExactPathOkUptoRow : OpenClaim := { program := "ytnanbjnadkoekaadoor", sum := "e3602125dea10fe82e80f9e8c97206712a97b95f3d90b64a460d9691a8079c0a", func := "loop.example/stemma/laws.FnExactPathOk", spec := "fnExactPathOk", inPlace := ["internal/bytealg.CountString", "internal/bytealg.IndexByteString", "internal/bytealg.IndexString"], unfollowed := true, recurses := true, named := ["unicode/utf8.first", "unicode/utf8.acceptRanges", "internal/bytealg.MaxLen"], apart := false, laid := [("unicode/utf8.acceptRanges", laid_unicode_utf8_acceptRanges), ("unicode/utf8.first", laid_unicode_utf8_first)], narrowed := true }
def FnExactPathOkUptoSaid : Prop := fnExactPathOkUptoRow.holds Tryd.pinned (OpenSpec.upto fnExactPathOkSpec)

/-- 'laws.FnExactPathIn', WHERE WHAT IT READS IS OF BULK AT MOST 1048576: true; the input reads as it did. -/
def fnExactPathInUptoRow : OpenClaim := { program := "ytnanbjnadkoekaadoor", sum := "e3602125dea10fe82e80f9e8c97206712a97b95f3d90b64a460d9691a8079c0a", func := "loop.example/stemma/laws.FnExactPathIn", spec := "fnExactPathIn", inPlace := ["internal/bytealg.CountString", "internal/bytealg.IndexByteString", "internal/bytealg.IndexString"], unfollowed := true, recurses := true, named := ["unicode/utf8.first", "unicode/utf8.acceptRanges", "internal/bytealg.MaxLen"], apart := false, laid := [("unicode/utf8.acceptRanges", laid_unicode_utf8_acceptRanges), ("unicode/utf8.first", laid_unicode_utf8_first)], narrowed := true }
def FnExactPathInUptoSaid : Prop := fnExactPathInUptoRow.holds Tryd.pinned (OpenSpec.upto fnExactPathInSpec)

/-- 'laws.FnPathIn', WHERE WHAT IT READS IS OF BULK AT MOST 1048576: true; the input reads as it did. -/
def fnPathInUptoRow : OpenClaim := { program := "ytnanbjnadkoekaadoor", sum := "e3602125dea10fe82e80f9e8c97206712a97b95f3d90b64a460d9691a8079c0a", func := "loop.example/stemma/laws.FnPathIn", spec := "fnPathIn", inPlace := ["internal/bytealg.CountString", "internal/bytealg.IndexByteString", "internal/bytealg.IndexString"], unfollowed := true, recurses := true, named := ["unicode/utf8.first", "unicode/utf8.acceptRanges", "internal/bytealg.MaxLen"], apart := false, laid := [("unicode/utf8.acceptRanges", laid_unicode_utf8_acceptRanges), ("unicode/utf8.first", laid_unicode_utf8_first)], narrowed := true }
def FnPathInUptoSaid : Prop := fnPathInUptoRow.holds Tryd.pinned (OpenSpec.upto fnPathInSpec)

/-- 'laws.FnExactTreeOk', WHERE WHAT IT READS IS OF BULK AT MOST 1048576: true; the input reads as it did. -/
def fnExactTreeOkUptoRow : OpenClaim := { program := "ytnanbjnadkoekaadoor", sum := "e3602125dea10fe82e80f9e8c97206712a97b95f3d90b64a460d9691a8079c0a", func := "loop.example/stemma/laws.FnExactTreeOk", spec := "fnExactTreeOk", inPlace := ["internal/bytealg.CountString", "internal/bytealg.IndexByteString", "internal/bytealg.IndexString"], unfollowed := true, recurses := true, named := ["unicode/utf8.first", "unicode/utf8.acceptRanges", "internal/bytealg.MaxLen"], apart := false, laid := [("unicode/utf8.acceptRanges", laid_unicode_utf8_acceptRanges), ("unicode/utf8.first", laid_unicode_utf8_first)], narrowed := true }
def FnExactTreeOkUptoSaid : Prop := fnExactTreeOkUptoRow.holds Tryd.pinned (OpenSpec.upto fnExactTreeOkSpec)

/-- 'laws.FnExactTreeUnder', WHERE WHAT IT READS IS OF BULK AT MOST 1048576: true; the input reads as it did. -/
def fnExactTreeUnderUptoRow : OpenClaim := { program := "ytnanbjnadkoekaadoor", sum := "e3602125dea10fe82e80f9e8c97206712a97b95f3d90b64a460d9691a8079c0a", func := "loop.example/stemma/laws.FnExactTreeUnder", spec := "fnExactTreeUnder", inPlace := ["internal/bytealg.CountString", "internal/bytealg.IndexByteString", "internal/bytealg.IndexString"], unfollowed := true, recurses := true, named := ["unicode/utf8.first", "unicode/utf8.acceptRanges", "internal/bytealg.MaxLen"], apart := false, laid := [("unicode/utf8.acceptRanges", laid_unicode_utf8_acceptRanges), ("unicode/utf8.first", laid_unicode_utf8_first)], narrowed := true }
def FnExactTreeUnderUptoSaid : Prop := fnExactTreeUnderUptoRow.holds Tryd.pinned (OpenSpec.upto fnExactTreeUnderSpec)

/-- 'laws.FnExactTreeDrop', WHERE WHAT IT READS IS OF BULK AT MOST 1048576: true; the input reads as it did. -/
def fnExactTreeDropUptoRow : OpenClaim := { program := "ytnanbjnadkoekaadoor", sum := "e3602125dea10fe82e80f9e8c97206712a97b95f3d90b64a460d9691a8079c0a", func := "loop.example/stemma/laws.FnExactTreeDrop", spec := "fnExactTreeDrop", inPlace := ["internal/bytealg.CountString", "internal/bytealg.IndexByteString", "internal/bytealg.IndexString"], unfollowed := true, recurses := true, named := ["unicode/utf8.first", "unicode/utf8.acceptRanges", "internal/bytealg.MaxLen"], apart := false, laid := [("unicode/utf8.acceptRanges", laid_unicode_utf8_acceptRanges), ("unicode/utf8.first", laid_unicode_utf8_first)], narrowed := true }
def FnExactTreeDropUptoSaid : Prop := fnExactTreeDropUptoRow.holds Tryd.pinned (OpenSpec.upto fnExactTreeDropSpec)

/-- 'laws.FnExactTreeGet', WHERE WHAT IT READS IS OF BULK AT MOST 1048576: true; the input reads as it did. -/
def fnExactTreeGetUptoRow : OpenClaim := { program := "ytnanbjnadkoekaadoor", sum := "e3602125dea10fe82e80f9e8c97206712a97b95f3d90b64a460d9691a8079c0a", func := "loop.example/stemma/laws.FnExactTreeGet", spec := "fnExactTreeGet", inPlace := ["internal/bytealg.CountString", "internal/bytealg.IndexByteString", "internal/bytealg.IndexString"], unfollowed := true, recurses := true, named := ["unicode/utf8.first", "unicode/utf8.acceptRanges", "internal/bytealg.MaxLen"], apart := false, laid := [("unicode/utf8.acceptRanges", laid_unicode_utf8_acceptRanges), ("unicode/utf8.first", laid_unicode_utf8_first)], narrowed := true }
def FnExactTreeGetUptoSaid : Prop := fnExactTreeGetUptoRow.holds Tryd.pinned (OpenSpec.upto fnExactTreeGetSpec)

/-- 'laws.FnExactTreeSet', WHERE WHAT IT READS IS OF BULK AT MOST 1048576: true; the input reads as it did. -/
def fnExactTreeSetUptoRow : OpenClaim := { program := "ytnanbjnadkoekaadoor", sum := "e3602125dea10fe82e80f9e8c97206712a97b95f3d90b64a460d9691a8079c0a", func := "loop.example/stemma/laws.FnExactTreeSet", spec := "fnExactTreeSet", inPlace := ["internal/bytealg.CountString", "internal/bytealg.IndexByteString", "internal/bytealg.IndexString", "slices.overlaps[loop.example/stemma/impl.File]"], unfollowed := true, recurses := true, named := ["unicode/utf8.first", "unicode/utf8.acceptRanges", "internal/bytealg.MaxLen"], apart := false, laid := [("unicode/utf8.acceptRanges", laid_unicode_utf8_acceptRanges), ("unicode/utf8.first", laid_unicode_utf8_first)], narrowed := true }
def FnExactTreeSetUptoSaid : Prop := fnExactTreeSetUptoRow.holds Tryd.pinned (OpenSpec.upto fnExactTreeSetSpec)

/-- 'laws.FnExactTreeMove', WHERE WHAT IT READS IS OF BULK AT MOST 1048576: true; the input reads as it did. -/
def fnExactTreeMoveUptoRow : OpenClaim := { program := "ytnanbjnadkoekaadoor", sum := "e3602125dea10fe82e80f9e8c97206712a97b95f3d90b64a460d9691a8079c0a", func := "loop.example/stemma/laws.FnExactTreeMove", spec := "fnExactTreeMove", inPlace := ["internal/bytealg.CountString", "internal/bytealg.IndexByteString", "internal/bytealg.IndexString"], unfollowed := true, recurses := true, named := ["unicode/utf8.first", "unicode/utf8.acceptRanges", "internal/bytealg.MaxLen"], apart := false, laid := [("unicode/utf8.acceptRanges", laid_unicode_utf8_acceptRanges), ("unicode/utf8.first", laid_unicode_utf8_first)], narrowed := true }
def FnExactTreeMoveUptoSaid : Prop := fnExactTreeMoveUptoRow.holds Tryd.pinned (OpenSpec.upto fnExactTreeMoveSpec)

end Rows
end Go.Proofs.YtnanbjnadkoekaaDoor
