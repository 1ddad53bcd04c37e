/-
  No cell of these rows narrows 'for every input' (looked for: loops, veiled, ifaces, maps, wideKeys, modest, calm, conditions, laid).
  DERIVED. THE GIVEN ROWS OF THIS SEAT. 12 by the template 'for every input the law returns true; each argument reads behind the call as it read before'; 0 by the template 'total and deterministic' (their statements: YtjbniljmgnmdnaaTotals.lean).
  GIVEN WITH THE SEED: the statements are not yours to turn. If you find one false, say at which input.
  Laid BY PROGRAM, IN A SANDBOX (cutbox-rows.mjs): the forced cells as the released guide's own fill.sh prints them over the translation a1ad8bdea6ae8b74… (all of the seat's roots in one cut). By AI agents, Wed Nov 11 2026. No macro, syntax, notation, axiom, sorry.
-/
import Derived.Test.YtjbniljmgnmdnaaChecked
import GoSem.Claim
import GoSem.ClaimJoined
import GoSem.ClaimMapViews
import Derived.JoinedTies
import Derived.KernelRfl
namespace Go.Proofs.Ytjbniljmgnmdnaa
/- THE CELL 'sum', in the pinned program and in every row, IS THE sha256 OF THE DUMP (.gsa) THAT YtjbniljmgnmdnaaProg.lean LOADS. Nothing in Lean hashes anything: it is a label: what it is worth is what the hold of that sum in a sandbox is worth. -/
noncomputable def Try.pinned : Pinned := { name := "ytjbniljmgnmdnaa", sum := "a1ad8bdea6ae8b74e215d9ebacb509771af6b689ac9ffbf466e2f6a043251417", checked := Try.checked }
namespace Rows
def none {H : Type} : Left H := { results := [], args := [] }

/-- 'laws.FnExactTextOk': WHATEVER THE INPUT: true; the input reads as it did. -/
def fnExactTextOkSpec : ChangeSpec := { name := "fnExactTextOk", fn := fun _ => fun
  | [d] => { results := [.lit (.bool true)], args := [d] }
  | _ => none }
def fnExactTextOkRow : OpenClaim := { program := "ytjbniljmgnmdnaa", sum := "a1ad8bdea6ae8b74e215d9ebacb509771af6b689ac9ffbf466e2f6a043251417", func := "loop.example/stemma/laws.FnExactTextOk", spec := "fnExactTextOk", unfollowed := true, recurses := true, apart := false }
def FnExactTextOkSaid : Prop := fnExactTextOkRow.holds Try.pinned (OpenSpec.ofChange fnExactTextOkSpec)

/-- ITS FALSE NEIGHBOUR: 'it returns false'. Refute it at one input. -/
def fnExactTextOkWrong : ChangeSpec := { name := "fnExactTextOk", fn := fun _ => fun
  | [d] => { results := [.lit (.bool false)], args := [d] }
  | _ => none }
def FnExactTextOkWrongFalsely : Prop := fnExactTextOkRow.holds Try.pinned (OpenSpec.ofChange fnExactTextOkWrong)

/-- 'laws.FnExactDiffMany': WHATEVER THE INPUT: true; the input reads as it did. -/
def fnExactDiffManySpec : ChangeSpec := { name := "fnExactDiffMany", fn := fun _ => fun
  | [d1, d2] => { results := [.lit (.bool true)], args := [d1, d2] }
  | _ => none }
def fnExactDiffManyRow : OpenClaim := { program := "ytjbniljmgnmdnaa", sum := "a1ad8bdea6ae8b74e215d9ebacb509771af6b689ac9ffbf466e2f6a043251417", func := "loop.example/stemma/laws.FnExactDiffMany", spec := "fnExactDiffMany", unfollowed := true, recurses := true, apart := false }
def FnExactDiffManySaid : Prop := fnExactDiffManyRow.holds Try.pinned (OpenSpec.ofChange fnExactDiffManySpec)

/-- ITS FALSE NEIGHBOUR: 'it returns false'. Refute it at one input. -/
def fnExactDiffManyWrong : ChangeSpec := { name := "fnExactDiffMany", fn := fun _ => fun
  | [d1, d2] => { results := [.lit (.bool false)], args := [d1, d2] }
  | _ => none }
def FnExactDiffManyWrongFalsely : Prop := fnExactDiffManyRow.holds Try.pinned (OpenSpec.ofChange fnExactDiffManyWrong)

/-- 'laws.FnDiffMany': WHATEVER THE INPUT: true; the input reads as it did. -/
def fnDiffManySpec : ChangeSpec := { name := "fnDiffMany", fn := fun _ => fun
  | [d1, d2] => { results := [.lit (.bool true)], args := [d1, d2] }
  | _ => none }
def fnDiffManyRow : OpenClaim := { program := "ytjbniljmgnmdnaa", sum := "a1ad8bdea6ae8b74e215d9ebacb509771af6b689ac9ffbf466e2f6a043251417", func := "loop.example/stemma/laws.FnDiffMany", spec := "fnDiffMany", unfollowed := true, recurses := true, apart := false }
def FnDiffManySaid : Prop := fnDiffManyRow.holds Try.pinned (OpenSpec.ofChange fnDiffManySpec)

/-- ITS FALSE NEIGHBOUR: 'it returns false'. Refute it at one input. -/
def fnDiffManyWrong : ChangeSpec := { name := "fnDiffMany", fn := fun _ => fun
  | [d1, d2] => { results := [.lit (.bool false)], args := [d1, d2] }
  | _ => none }
def FnDiffManyWrongFalsely : Prop := fnDiffManyRow.holds Try.pinned (OpenSpec.ofChange fnDiffManyWrong)

/-- 'laws.FnExactPatchOk': WHATEVER THE INPUT: true; the input reads as it did. -/
def fnExactPatchOkSpec : ChangeSpec := { name := "fnExactPatchOk", fn := fun _ => fun
  | [d] => { results := [.lit (.bool true)], args := [d] }
  | _ => none }
def fnExactPatchOkRow : OpenClaim := { program := "ytjbniljmgnmdnaa", sum := "a1ad8bdea6ae8b74e215d9ebacb509771af6b689ac9ffbf466e2f6a043251417", func := "loop.example/stemma/laws.FnExactPatchOk", spec := "fnExactPatchOk", unfollowed := true, recurses := true, apart := false }
def FnExactPatchOkSaid : Prop := fnExactPatchOkRow.holds Try.pinned (OpenSpec.ofChange fnExactPatchOkSpec)

/-- ITS FALSE NEIGHBOUR: 'it returns false'. Refute it at one input. -/
def fnExactPatchOkWrong : ChangeSpec := { name := "fnExactPatchOk", fn := fun _ => fun
  | [d] => { results := [.lit (.bool false)], args := [d] }
  | _ => none }
def FnExactPatchOkWrongFalsely : Prop := fnExactPatchOkRow.holds Try.pinned (OpenSpec.ofChange fnExactPatchOkWrong)

/-- 'laws.FnDiffMatch': WHATEVER THE INPUT: true; the input reads as it did. -/
def fnDiffMatchSpec : ChangeSpec := { name := "fnDiffMatch", fn := fun _ => fun
  | [d] => { results := [.lit (.bool true)], args := [d] }
  | _ => none }
def fnDiffMatchRow : OpenClaim := { program := "ytjbniljmgnmdnaa", sum := "a1ad8bdea6ae8b74e215d9ebacb509771af6b689ac9ffbf466e2f6a043251417", func := "loop.example/stemma/laws.FnDiffMatch", spec := "fnDiffMatch", unfollowed := true, recurses := true, apart := false }
def FnDiffMatchSaid : Prop := fnDiffMatchRow.holds Try.pinned (OpenSpec.ofChange fnDiffMatchSpec)

/-- ITS FALSE NEIGHBOUR: 'it returns false'. Refute it at one input. -/
def fnDiffMatchWrong : ChangeSpec := { name := "fnDiffMatch", fn := fun _ => fun
  | [d] => { results := [.lit (.bool false)], args := [d] }
  | _ => none }
def FnDiffMatchWrongFalsely : Prop := fnDiffMatchRow.holds Try.pinned (OpenSpec.ofChange fnDiffMatchWrong)

/-- 'laws.FnExactDiffMatch': WHATEVER THE INPUT: true; the input reads as it did. -/
def fnExactDiffMatchSpec : ChangeSpec := { name := "fnExactDiffMatch", fn := fun _ => fun
  | [d1, d2] => { results := [.lit (.bool true)], args := [d1, d2] }
  | _ => none }
def fnExactDiffMatchRow : OpenClaim := { program := "ytjbniljmgnmdnaa", sum := "a1ad8bdea6ae8b74e215d9ebacb509771af6b689ac9ffbf466e2f6a043251417", func := "loop.example/stemma/laws.FnExactDiffMatch", spec := "fnExactDiffMatch", unfollowed := true, recurses := true, apart := false }
def FnExactDiffMatchSaid : Prop := fnExactDiffMatchRow.holds Try.pinned (OpenSpec.ofChange fnExactDiffMatchSpec)

/-- ITS FALSE NEIGHBOUR: 'it returns false'. Refute it at one input. -/
def fnExactDiffMatchWrong : ChangeSpec := { name := "fnExactDiffMatch", fn := fun _ => fun
  | [d1, d2] => { results := [.lit (.bool false)], args := [d1, d2] }
  | _ => none }
def FnExactDiffMatchWrongFalsely : Prop := fnExactDiffMatchRow.holds Try.pinned (OpenSpec.ofChange fnExactDiffMatchWrong)

/-- 'laws.FnPatchFree': WHATEVER THE INPUT: true; the input reads as it did. -/
def fnPatchFreeSpec : ChangeSpec := { name := "fnPatchFree", fn := fun _ => fun
  | [d] => { results := [.lit (.bool true)], args := [d] }
  | _ => none }
def fnPatchFreeRow : OpenClaim := { program := "ytjbniljmgnmdnaa", sum := "a1ad8bdea6ae8b74e215d9ebacb509771af6b689ac9ffbf466e2f6a043251417", func := "loop.example/stemma/laws.FnPatchFree", spec := "fnPatchFree", unfollowed := true, recurses := true, apart := false }
def FnPatchFreeSaid : Prop := fnPatchFreeRow.holds Try.pinned (OpenSpec.ofChange fnPatchFreeSpec)

/-- ITS FALSE NEIGHBOUR: 'it returns false'. Refute it at one input. -/
def fnPatchFreeWrong : ChangeSpec := { name := "fnPatchFree", fn := fun _ => fun
  | [d] => { results := [.lit (.bool false)], args := [d] }
  | _ => none }
def FnPatchFreeWrongFalsely : Prop := fnPatchFreeRow.holds Try.pinned (OpenSpec.ofChange fnPatchFreeWrong)

/-- 'laws.FnExactPatchFree': WHATEVER THE INPUT: true; the input reads as it did. -/
def fnExactPatchFreeSpec : ChangeSpec := { name := "fnExactPatchFree", fn := fun _ => fun
  | [d1, d2] => { results := [.lit (.bool true)], args := [d1, d2] }
  | _ => none }
def fnExactPatchFreeRow : OpenClaim := { program := "ytjbniljmgnmdnaa", sum := "a1ad8bdea6ae8b74e215d9ebacb509771af6b689ac9ffbf466e2f6a043251417", func := "loop.example/stemma/laws.FnExactPatchFree", spec := "fnExactPatchFree", unfollowed := true, recurses := true, apart := false }
def FnExactPatchFreeSaid : Prop := fnExactPatchFreeRow.holds Try.pinned (OpenSpec.ofChange fnExactPatchFreeSpec)

/-- ITS FALSE NEIGHBOUR: 'it returns false'. Refute it at one input. -/
def fnExactPatchFreeWrong : ChangeSpec := { name := "fnExactPatchFree", fn := fun _ => fun
  | [d1, d2] => { results := [.lit (.bool false)], args := [d1, d2] }
  | _ => none }
def FnExactPatchFreeWrongFalsely : Prop := fnExactPatchFreeRow.holds Try.pinned (OpenSpec.ofChange fnExactPatchFreeWrong)

/-- 'laws.FnExactDiffOf': WHATEVER THE INPUT: true; the input reads as it did. -/
def fnExactDiffOfSpec : ChangeSpec := { name := "fnExactDiffOf", fn := fun _ => fun
  | [d1, d2] => { results := [.lit (.bool true)], args := [d1, d2] }
  | _ => none }
def fnExactDiffOfRow : OpenClaim := { program := "ytjbniljmgnmdnaa", sum := "a1ad8bdea6ae8b74e215d9ebacb509771af6b689ac9ffbf466e2f6a043251417", func := "loop.example/stemma/laws.FnExactDiffOf", spec := "fnExactDiffOf", unfollowed := true, recurses := true, apart := false }
def FnExactDiffOfSaid : Prop := fnExactDiffOfRow.holds Try.pinned (OpenSpec.ofChange fnExactDiffOfSpec)

/-- ITS FALSE NEIGHBOUR: 'it returns false'. Refute it at one input. -/
def fnExactDiffOfWrong : ChangeSpec := { name := "fnExactDiffOf", fn := fun _ => fun
  | [d1, d2] => { results := [.lit (.bool false)], args := [d1, d2] }
  | _ => none }
def FnExactDiffOfWrongFalsely : Prop := fnExactDiffOfRow.holds Try.pinned (OpenSpec.ofChange fnExactDiffOfWrong)

/-- 'laws.FnExactPatchBack': WHATEVER THE INPUT: true; the input reads as it did. -/
def fnExactPatchBackSpec : ChangeSpec := { name := "fnExactPatchBack", fn := fun _ => fun
  | [d] => { results := [.lit (.bool true)], args := [d] }
  | _ => none }
def fnExactPatchBackRow : OpenClaim := { program := "ytjbniljmgnmdnaa", sum := "a1ad8bdea6ae8b74e215d9ebacb509771af6b689ac9ffbf466e2f6a043251417", func := "loop.example/stemma/laws.FnExactPatchBack", spec := "fnExactPatchBack", unfollowed := true, recurses := true, apart := false }
def FnExactPatchBackSaid : Prop := fnExactPatchBackRow.holds Try.pinned (OpenSpec.ofChange fnExactPatchBackSpec)

/-- ITS FALSE NEIGHBOUR: 'it returns false'. Refute it at one input. -/
def fnExactPatchBackWrong : ChangeSpec := { name := "fnExactPatchBack", fn := fun _ => fun
  | [d] => { results := [.lit (.bool false)], args := [d] }
  | _ => none }
def FnExactPatchBackWrongFalsely : Prop := fnExactPatchBackRow.holds Try.pinned (OpenSpec.ofChange fnExactPatchBackWrong)

/-- 'laws.FnExactPatchDo': WHATEVER THE INPUT: true; the input reads as it did. -/
def fnExactPatchDoSpec : ChangeSpec := { name := "fnExactPatchDo", fn := fun _ => fun
  | [d1, d2] => { results := [.lit (.bool true)], args := [d1, d2] }
  | _ => none }
def fnExactPatchDoRow : OpenClaim := { program := "ytjbniljmgnmdnaa", sum := "a1ad8bdea6ae8b74e215d9ebacb509771af6b689ac9ffbf466e2f6a043251417", func := "loop.example/stemma/laws.FnExactPatchDo", spec := "fnExactPatchDo", unfollowed := true, recurses := true, apart := false }
def FnExactPatchDoSaid : Prop := fnExactPatchDoRow.holds Try.pinned (OpenSpec.ofChange fnExactPatchDoSpec)

/-- ITS FALSE NEIGHBOUR: 'it returns false'. Refute it at one input. -/
def fnExactPatchDoWrong : ChangeSpec := { name := "fnExactPatchDo", fn := fun _ => fun
  | [d1, d2] => { results := [.lit (.bool false)], args := [d1, d2] }
  | _ => none }
def FnExactPatchDoWrongFalsely : Prop := fnExactPatchDoRow.holds Try.pinned (OpenSpec.ofChange fnExactPatchDoWrong)

/-- 'laws.FnDiffOf': WHATEVER THE INPUT: true; the input reads as it did. -/
def fnDiffOfSpec : ChangeSpec := { name := "fnDiffOf", fn := fun _ => fun
  | [d] => { results := [.lit (.bool true)], args := [d] }
  | _ => none }
def fnDiffOfRow : OpenClaim := { program := "ytjbniljmgnmdnaa", sum := "a1ad8bdea6ae8b74e215d9ebacb509771af6b689ac9ffbf466e2f6a043251417", func := "loop.example/stemma/laws.FnDiffOf", spec := "fnDiffOf", unfollowed := true, recurses := true, apart := false }
def FnDiffOfSaid : Prop := fnDiffOfRow.holds Try.pinned (OpenSpec.ofChange fnDiffOfSpec)

/-- ITS FALSE NEIGHBOUR: 'it returns false'. Refute it at one input. -/
def fnDiffOfWrong : ChangeSpec := { name := "fnDiffOf", fn := fun _ => fun
  | [d] => { results := [.lit (.bool false)], args := [d] }
  | _ => none }
def FnDiffOfWrongFalsely : Prop := fnDiffOfRow.holds Try.pinned (OpenSpec.ofChange fnDiffOfWrong)

/- THE SECOND FORM. 'bulk': how many values and letters a reading holds, each counted each time it is reached (what is shared counts as often as it is met; a slice's spare places count too). A statement '..UptoSaid' is the law's where the arguments, and the package variables that the reading takes, are together of bulk at most 1048576: NARROWER than '..Said'. Prove '..Said' where nothing that the law and all that it calls make is longer than what came in: it says more and counts as full. Else prove '..UptoSaid'. A law counts once. -/
mutual
def uptoBulk {H : Type} : DataW H → Nat
  | .lit (.string bytes) => bytes.length + 1
  | .lit _ => 1
  | .nil => 1
  | .ptr d => uptoBulk d + 1
  | .slice elems spare => uptoBulkAll elems + uptoBulkAll spare + 1
  | .agg parts => uptoBulkAll parts + 1
  | .iface _ d => uptoBulk d + 1
  | .map entries => uptoBulkEntries entries + 1
  | .held _ => 1
def uptoBulkAll {H : Type} : List (DataW H) → Nat
  | [] => 0
  | d :: r => uptoBulk d + uptoBulkAll r
def uptoBulkEntries {H : Type} : List (Lit × DataW H) → Nat
  | [] => 0
  | x :: r => uptoBulkEntry x + uptoBulkEntries r
def uptoBulkEntry {H : Type} : Lit × DataW H → Nat
  | (.string bytes, d) => bytes.length + uptoBulk d + 1
  | (_, d) => uptoBulk d + 1
 end
def uptoSmall : (H : Type) → List (DataW H) → Bool := fun _ ds => decide (uptoBulkAll ds ≤ 1048576)
def OpenSpec.upto (s : _root_.Go.ChangeSpec) : _root_.Go.OpenSpec := { _root_.Go.OpenSpec.ofChange s with cond := some uptoSmall }

/-- 'laws.FnExactTextOk', WHERE WHAT IT READS IS OF BULK AT MOST 1048576: true; the input reads as it did. -/
def fnExactTextOkUptoRow : OpenClaim := { program := "ytjbniljmgnmdnaa", sum := "a1ad8bdea6ae8b74e215d9ebacb509771af6b689ac9ffbf466e2f6a043251417", func := "loop.example/stemma/laws.FnExactTextOk", spec := "fnExactTextOk", unfollowed := true, recurses := true, apart := false, narrowed := true }
def FnExactTextOkUptoSaid : Prop := fnExactTextOkUptoRow.holds Try.pinned (OpenSpec.upto fnExactTextOkSpec)

/-- 'laws.FnExactDiffMany', WHERE WHAT IT READS IS OF BULK AT MOST 1048576: true; the input reads as it did. -/
def fnExactDiffManyUptoRow : OpenClaim := { program := "ytjbniljmgnmdnaa", sum := "a1ad8bdea6ae8b74e215d9ebacb509771af6b689ac9ffbf466e2f6a043251417", func := "loop.example/stemma/laws.FnExactDiffMany", spec := "fnExactDiffMany", unfollowed := true, recurses := true, apart := false, narrowed := true }
def FnExactDiffManyUptoSaid : Prop := fnExactDiffManyUptoRow.holds Try.pinned (OpenSpec.upto fnExactDiffManySpec)

/-- 'laws.FnDiffMany', WHERE WHAT IT READS IS OF BULK AT MOST 1048576: true; the input reads as it did. -/
def fnDiffManyUptoRow : OpenClaim := { program := "ytjbniljmgnmdnaa", sum := "a1ad8bdea6ae8b74e215d9ebacb509771af6b689ac9ffbf466e2f6a043251417", func := "loop.example/stemma/laws.FnDiffMany", spec := "fnDiffMany", unfollowed := true, recurses := true, apart := false, narrowed := true }
def FnDiffManyUptoSaid : Prop := fnDiffManyUptoRow.holds Try.pinned (OpenSpec.upto fnDiffManySpec)

/-- 'laws.FnExactPatchOk', WHERE WHAT IT READS IS OF BULK AT MOST 1048576: true; the input reads as it did. -/
def fnExactPatchOkUptoRow : OpenClaim := { program := "ytjbniljmgnmdnaa", sum := "a1ad8bdea6ae8b74e215d9ebacb509771af6b689ac9ffbf466e2f6a043251417", func := "loop.example/stemma/laws.FnExactPatchOk", spec := "fnExactPatchOk", unfollowed := true, recurses := true, apart := false, narrowed := true }
def FnExactPatchOkUptoSaid : Prop := fnExactPatchOkUptoRow.holds Try.pinned (OpenSpec.upto fnExactPatchOkSpec)

/-- 'laws.FnDiffMatch', WHERE WHAT IT READS IS OF BULK AT MOST 1048576: true; the input reads as it did. -/
def fnDiffMatchUptoRow : OpenClaim := { program := "ytjbniljmgnmdnaa", sum := "a1ad8bdea6ae8b74e215d9ebacb509771af6b689ac9ffbf466e2f6a043251417", func := "loop.example/stemma/laws.FnDiffMatch", spec := "fnDiffMatch", unfollowed := true, recurses := true, apart := false, narrowed := true }
def FnDiffMatchUptoSaid : Prop := fnDiffMatchUptoRow.holds Try.pinned (OpenSpec.upto fnDiffMatchSpec)

/-- 'laws.FnExactDiffMatch', WHERE WHAT IT READS IS OF BULK AT MOST 1048576: true; the input reads as it did. -/
def fnExactDiffMatchUptoRow : OpenClaim := { program := "ytjbniljmgnmdnaa", sum := "a1ad8bdea6ae8b74e215d9ebacb509771af6b689ac9ffbf466e2f6a043251417", func := "loop.example/stemma/laws.FnExactDiffMatch", spec := "fnExactDiffMatch", unfollowed := true, recurses := true, apart := false, narrowed := true }
def FnExactDiffMatchUptoSaid : Prop := fnExactDiffMatchUptoRow.holds Try.pinned (OpenSpec.upto fnExactDiffMatchSpec)

/-- 'laws.FnPatchFree', WHERE WHAT IT READS IS OF BULK AT MOST 1048576: true; the input reads as it did. -/
def fnPatchFreeUptoRow : OpenClaim := { program := "ytjbniljmgnmdnaa", sum := "a1ad8bdea6ae8b74e215d9ebacb509771af6b689ac9ffbf466e2f6a043251417", func := "loop.example/stemma/laws.FnPatchFree", spec := "fnPatchFree", unfollowed := true, recurses := true, apart := false, narrowed := true }
def FnPatchFreeUptoSaid : Prop := fnPatchFreeUptoRow.holds Try.pinned (OpenSpec.upto fnPatchFreeSpec)

/-- 'laws.FnExactPatchFree', WHERE WHAT IT READS IS OF BULK AT MOST 1048576: true; the input reads as it did. -/
def fnExactPatchFreeUptoRow : OpenClaim := { program := "ytjbniljmgnmdnaa", sum := "a1ad8bdea6ae8b74e215d9ebacb509771af6b689ac9ffbf466e2f6a043251417", func := "loop.example/stemma/laws.FnExactPatchFree", spec := "fnExactPatchFree", unfollowed := true, recurses := true, apart := false, narrowed := true }
def FnExactPatchFreeUptoSaid : Prop := fnExactPatchFreeUptoRow.holds Try.pinned (OpenSpec.upto fnExactPatchFreeSpec)

/-- 'laws.FnExactDiffOf', WHERE WHAT IT READS IS OF BULK AT MOST 1048576: true; the input reads as it did. -/
def fnExactDiffOfUptoRow : OpenClaim := { program := "ytjbniljmgnmdnaa", sum := "a1ad8bdea6ae8b74e215d9ebacb509771af6b689ac9ffbf466e2f6a043251417", func := "loop.example/stemma/laws.FnExactDiffOf", spec := "fnExactDiffOf", unfollowed := true, recurses := true, apart := false, narrowed := true }
def FnExactDiffOfUptoSaid : Prop := fnExactDiffOfUptoRow.holds Try.pinned (OpenSpec.upto fnExactDiffOfSpec)

/-- 'laws.FnExactPatchBack', WHERE WHAT IT READS IS OF BULK AT MOST 1048576: true; the input reads as it did. -/
def fnExactPatchBackUptoRow : OpenClaim := { program := "ytjbniljmgnmdnaa", sum := "a1ad8bdea6ae8b74e215d9ebacb509771af6b689ac9ffbf466e2f6a043251417", func := "loop.example/stemma/laws.FnExactPatchBack", spec := "fnExactPatchBack", unfollowed := true, recurses := true, apart := false, narrowed := true }
def FnExactPatchBackUptoSaid : Prop := fnExactPatchBackUptoRow.holds Try.pinned (OpenSpec.upto fnExactPatchBackSpec)

/-- 'laws.FnExactPatchDo', WHERE WHAT IT READS IS OF BULK AT MOST 1048576: true; the input reads as it did. -/
def fnExactPatchDoUptoRow : OpenClaim := { program := "ytjbniljmgnmdnaa", sum := "a1ad8bdea6ae8b74e215d9ebacb509771af6b689ac9ffbf466e2f6a043251417", func := "loop.example/stemma/laws.FnExactPatchDo", spec := "fnExactPatchDo", unfollowed := true, recurses := true, apart := false, narrowed := true }
def FnExactPatchDoUptoSaid : Prop := fnExactPatchDoUptoRow.holds Try.pinned (OpenSpec.upto fnExactPatchDoSpec)

/-- 'laws.FnDiffOf', WHERE WHAT IT READS IS OF BULK AT MOST 1048576: true; the input reads as it did. -/
def fnDiffOfUptoRow : OpenClaim := { program := "ytjbniljmgnmdnaa", sum := "a1ad8bdea6ae8b74e215d9ebacb509771af6b689ac9ffbf466e2f6a043251417", func := "loop.example/stemma/laws.FnDiffOf", spec := "fnDiffOf", unfollowed := true, recurses := true, apart := false, narrowed := true }
def FnDiffOfUptoSaid : Prop := fnDiffOfUptoRow.holds Try.pinned (OpenSpec.upto fnDiffOfSpec)

end Rows
end Go.Proofs.Ytjbniljmgnmdnaa
