/-
  No cell of these rows narrows 'for every input' (looked for: loops, veiled, ifaces, maps, wideKeys, modest, calm, conditions, laid).
  DERIVED. THE GIVEN ROWS OF THIS SEAT. 6 by the template 'for every input the law returns true; each argument reads behind the call as it read before'; 0 by the template 'total and deterministic' (their statements: YtcjjkkccollipaaTotals.lean).
  GIVEN WITH THE SEED: the statements are not yours to turn. If you find one false, say at which input.
  Laid BY PROGRAM, IN A SANDBOX (cutbox-rows.mjs): the forced cells as the released guide's own fill.sh prints them over the translation bf6fff70bea18f1d… (all of the seat's roots in one cut). By AI agents, Wed Nov 11 2026. No macro, syntax, notation, axiom, sorry.
-/
import Derived.Test.YtcjjkkccollipaaChecked
import GoSem.Claim
import GoSem.ClaimJoined
import GoSem.ClaimMapViews
import Derived.JoinedTies
import Derived.KernelRfl
namespace Go.Proofs.Ytcjjkkccollipaa
/- THE CELL 'sum', in the pinned program and in every row, IS THE sha256 OF THE DUMP (.gsa) THAT YtcjjkkccollipaaProg.lean LOADS. Nothing in Lean hashes anything: it is a label: what it is worth is what the hold of that sum in a sandbox is worth. -/
noncomputable def Try.pinned : Pinned := { name := "ytcjjkkccollipaa", sum := "bf6fff70bea18f1dd2ce6482a29c9a9161ba1a906771a0c47bd844b2dca2ad89", checked := Try.checked }
namespace Rows
def none {H : Type} : Left H := { results := [], args := [] }

/-- 'laws.FnExactConstants': WHATEVER THE INPUT: true; the input reads as it did. -/
def fnExactConstantsSpec : ChangeSpec := { name := "fnExactConstants", fn := fun _ => fun
  | [] => { results := [.lit (.bool true)], args := [] }
  | _ => none }
def fnExactConstantsRow : OpenClaim := { program := "ytcjjkkccollipaa", sum := "bf6fff70bea18f1dd2ce6482a29c9a9161ba1a906771a0c47bd844b2dca2ad89", func := "loop.example/stemma/laws.FnExactConstants", spec := "fnExactConstants", apart := false }
def FnExactConstantsSaid : Prop := fnExactConstantsRow.holds Try.pinned (OpenSpec.ofChange fnExactConstantsSpec)

/-- ITS FALSE NEIGHBOUR: 'it returns false'. Refute it at one input. -/
def fnExactConstantsWrong : ChangeSpec := { name := "fnExactConstants", fn := fun _ => fun
  | [] => { results := [.lit (.bool false)], args := [] }
  | _ => none }
def FnExactConstantsWrongFalsely : Prop := fnExactConstantsRow.holds Try.pinned (OpenSpec.ofChange fnExactConstantsWrong)

/-- 'laws.FnExactTextOk': WHATEVER THE INPUT: true; the input reads as it did. -/
def fnExactTextOkSpec : ChangeSpec := { name := "fnExactTextOk", fn := fun _ => fun
  | [d] => { results := [.lit (.bool true)], args := [d] }
  | _ => none }
def fnExactTextOkRow : OpenClaim := { program := "ytcjjkkccollipaa", sum := "bf6fff70bea18f1dd2ce6482a29c9a9161ba1a906771a0c47bd844b2dca2ad89", func := "loop.example/stemma/laws.FnExactTextOk", spec := "fnExactTextOk", unfollowed := true, recurses := true, apart := false }
def FnExactTextOkSaid : Prop := fnExactTextOkRow.holds Try.pinned (OpenSpec.ofChange fnExactTextOkSpec)

/-- ITS FALSE NEIGHBOUR: 'it returns false'. Refute it at one input. -/
def fnExactTextOkWrong : ChangeSpec := { name := "fnExactTextOk", fn := fun _ => fun
  | [d] => { results := [.lit (.bool false)], args := [d] }
  | _ => none }
def FnExactTextOkWrongFalsely : Prop := fnExactTextOkRow.holds Try.pinned (OpenSpec.ofChange fnExactTextOkWrong)

/-- 'laws.FnExactDiffMany': WHATEVER THE INPUT: true; the input reads as it did. -/
def fnExactDiffManySpec : ChangeSpec := { name := "fnExactDiffMany", fn := fun _ => fun
  | [d1, d2] => { results := [.lit (.bool true)], args := [d1, d2] }
  | _ => none }
def fnExactDiffManyRow : OpenClaim := { program := "ytcjjkkccollipaa", sum := "bf6fff70bea18f1dd2ce6482a29c9a9161ba1a906771a0c47bd844b2dca2ad89", func := "loop.example/stemma/laws.FnExactDiffMany", spec := "fnExactDiffMany", unfollowed := true, recurses := true, apart := false }
def FnExactDiffManySaid : Prop := fnExactDiffManyRow.holds Try.pinned (OpenSpec.ofChange fnExactDiffManySpec)

/-- ITS FALSE NEIGHBOUR: 'it returns false'. Refute it at one input. -/
def fnExactDiffManyWrong : ChangeSpec := { name := "fnExactDiffMany", fn := fun _ => fun
  | [d1, d2] => { results := [.lit (.bool false)], args := [d1, d2] }
  | _ => none }
def FnExactDiffManyWrongFalsely : Prop := fnExactDiffManyRow.holds Try.pinned (OpenSpec.ofChange fnExactDiffManyWrong)

/-- 'laws.FnDiffMany': WHATEVER THE INPUT: true; the input reads as it did. -/
def fnDiffManySpec : ChangeSpec := { name := "fnDiffMany", fn := fun _ => fun
  | [d1, d2] => { results := [.lit (.bool true)], args := [d1, d2] }
  | _ => none }
def fnDiffManyRow : OpenClaim := { program := "ytcjjkkccollipaa", sum := "bf6fff70bea18f1dd2ce6482a29c9a9161ba1a906771a0c47bd844b2dca2ad89", func := "loop.example/stemma/laws.FnDiffMany", spec := "fnDiffMany", unfollowed := true, recurses := true, apart := false }
def FnDiffManySaid : Prop := fnDiffManyRow.holds Try.pinned (OpenSpec.ofChange fnDiffManySpec)

/-- ITS FALSE NEIGHBOUR: 'it returns false'. Refute it at one input. -/
def fnDiffManyWrong : ChangeSpec := { name := "fnDiffMany", fn := fun _ => fun
  | [d1, d2] => { results := [.lit (.bool false)], args := [d1, d2] }
  | _ => none }
def FnDiffManyWrongFalsely : Prop := fnDiffManyRow.holds Try.pinned (OpenSpec.ofChange fnDiffManyWrong)

/-- 'laws.FnExactPatchOk': WHATEVER THE INPUT: true; the input reads as it did. -/
def fnExactPatchOkSpec : ChangeSpec := { name := "fnExactPatchOk", fn := fun _ => fun
  | [d] => { results := [.lit (.bool true)], args := [d] }
  | _ => none }
def fnExactPatchOkRow : OpenClaim := { program := "ytcjjkkccollipaa", sum := "bf6fff70bea18f1dd2ce6482a29c9a9161ba1a906771a0c47bd844b2dca2ad89", func := "loop.example/stemma/laws.FnExactPatchOk", spec := "fnExactPatchOk", unfollowed := true, recurses := true, apart := false }
def FnExactPatchOkSaid : Prop := fnExactPatchOkRow.holds Try.pinned (OpenSpec.ofChange fnExactPatchOkSpec)

/-- ITS FALSE NEIGHBOUR: 'it returns false'. Refute it at one input. -/
def fnExactPatchOkWrong : ChangeSpec := { name := "fnExactPatchOk", fn := fun _ => fun
  | [d] => { results := [.lit (.bool false)], args := [d] }
  | _ => none }
def FnExactPatchOkWrongFalsely : Prop := fnExactPatchOkRow.holds Try.pinned (OpenSpec.ofChange fnExactPatchOkWrong)

/-- 'laws.FnDiffMatch': WHATEVER THE INPUT: true; the input reads as it did. -/
def fnDiffMatchSpec : ChangeSpec := { name := "fnDiffMatch", fn := fun _ => fun
  | [d] => { results := [.lit (.bool true)], args := [d] }
  | _ => none }
def fnDiffMatchRow : OpenClaim := { program := "ytcjjkkccollipaa", sum := "bf6fff70bea18f1dd2ce6482a29c9a9161ba1a906771a0c47bd844b2dca2ad89", func := "loop.example/stemma/laws.FnDiffMatch", spec := "fnDiffMatch", unfollowed := true, recurses := true, apart := false }
def FnDiffMatchSaid : Prop := fnDiffMatchRow.holds Try.pinned (OpenSpec.ofChange fnDiffMatchSpec)

/-- ITS FALSE NEIGHBOUR: 'it returns false'. Refute it at one input. -/
def fnDiffMatchWrong : ChangeSpec := { name := "fnDiffMatch", fn := fun _ => fun
  | [d] => { results := [.lit (.bool false)], args := [d] }
  | _ => none }
def FnDiffMatchWrongFalsely : Prop := fnDiffMatchRow.holds Try.pinned (OpenSpec.ofChange fnDiffMatchWrong)

/- THE SECOND FORM. 'bulk': how many values and letters a reading holds, each counted each time it is reached (what is shared counts as often as it is met; a slice's spare places count too). A statement '..UptoSaid' is the law's where the arguments, and the package variables that the reading takes, are together of bulk at most 1048576: NARROWER than '..Said'. Prove '..Said' where nothing that the law and all that it calls make is longer than what came in: it says more and counts as full. Else prove '..UptoSaid'. A law counts once. -/
mutual
def uptoBulk {H : Type} : DataW H → Nat
  | .lit (.string bytes) => bytes.length + 1
  | .lit _ => 1
  | .nil => 1
  | .ptr d => uptoBulk d + 1
  | .slice elems spare => uptoBulkAll elems + uptoBulkAll spare + 1
  | .agg parts => uptoBulkAll parts + 1
  | .iface _ d => uptoBulk d + 1
  | .map entries => uptoBulkEntries entries + 1
  | .held _ => 1
def uptoBulkAll {H : Type} : List (DataW H) → Nat
  | [] => 0
  | d :: r => uptoBulk d + uptoBulkAll r
def uptoBulkEntries {H : Type} : List (Lit × DataW H) → Nat
  | [] => 0
  | x :: r => uptoBulkEntry x + uptoBulkEntries r
def uptoBulkEntry {H : Type} : Lit × DataW H → Nat
  | (.string bytes, d) => bytes.length + uptoBulk d + 1
  | (_, d) => uptoBulk d + 1
 end
def uptoSmall : (H : Type) → List (DataW H) → Bool := fun _ ds => decide (uptoBulkAll ds ≤ 1048576)
def OpenSpec.upto (s : _root_.Go.ChangeSpec) : _root_.Go.OpenSpec := { _root_.Go.OpenSpec.ofChange s with cond := some uptoSmall }

/-- 'laws.FnExactConstants', WHERE WHAT IT READS IS OF BULK AT MOST 1048576: true; the input reads as it did. -/
def fnExactConstantsUptoRow : OpenClaim := { program := "ytcjjkkccollipaa", sum := "bf6fff70bea18f1dd2ce6482a29c9a9161ba1a906771a0c47bd844b2dca2ad89", func := "loop.example/stemma/laws.FnExactConstants", spec := "fnExactConstants", apart := false, narrowed := true }
def FnExactConstantsUptoSaid : Prop := fnExactConstantsUptoRow.holds Try.pinned (OpenSpec.upto fnExactConstantsSpec)

/-- 'laws.FnExactTextOk', WHERE WHAT IT READS IS OF BULK AT MOST 1048576: true; the input reads as it did. -/
def fnExactTextOkUptoRow : OpenClaim := { program := "ytcjjkkccollipaa", sum := "bf6fff70bea18f1dd2ce6482a29c9a9161ba1a906771a0c47bd844b2dca2ad89", func := "loop.example/stemma/laws.FnExactTextOk", spec := "fnExactTextOk", unfollowed := true, recurses := true, apart := false, narrowed := true }
def FnExactTextOkUptoSaid : Prop := fnExactTextOkUptoRow.holds Try.pinned (OpenSpec.upto fnExactTextOkSpec)

/-- 'laws.FnExactDiffMany', WHERE WHAT IT READS IS OF BULK AT MOST 1048576: true; the input reads as it did. -/
def fnExactDiffManyUptoRow : OpenClaim := { program := "ytcjjkkccollipaa", sum := "bf6fff70bea18f1dd2ce6482a29c9a9161ba1a906771a0c47bd844b2dca2ad89", func := "loop.example/stemma/laws.FnExactDiffMany", spec := "fnExactDiffMany", unfollowed := true, recurses := true, apart := false, narrowed := true }
def FnExactDiffManyUptoSaid : Prop := fnExactDiffManyUptoRow.holds Try.pinned (OpenSpec.upto fnExactDiffManySpec)

/-- 'laws.FnDiffMany', WHERE WHAT IT READS IS OF BULK AT MOST 1048576: true; the input reads as it did. -/
def fnDiffManyUptoRow : OpenClaim := { program := "ytcjjkkccollipaa", sum := "bf6fff70bea18f1dd2ce6482a29c9a9161ba1a906771a0c47bd844b2dca2ad89", func := "loop.example/stemma/laws.FnDiffMany", spec := "fnDiffMany", unfollowed := true, recurses := true, apart := false, narrowed := true }
def FnDiffManyUptoSaid : Prop := fnDiffManyUptoRow.holds Try.pinned (OpenSpec.upto fnDiffManySpec)

/-- 'laws.FnExactPatchOk', WHERE WHAT IT READS IS OF BULK AT MOST 1048576: true; the input reads as it did. -/
def fnExactPatchOkUptoRow : OpenClaim := { program := "ytcjjkkccollipaa", sum := "bf6fff70bea18f1dd2ce6482a29c9a9161ba1a906771a0c47bd844b2dca2ad89", func := "loop.example/stemma/laws.FnExactPatchOk", spec := "fnExactPatchOk", unfollowed := true, recurses := true, apart := false, narrowed := true }
def FnExactPatchOkUptoSaid : Prop := fnExactPatchOkUptoRow.holds Try.pinned (OpenSpec.upto fnExactPatchOkSpec)

/-- 'laws.FnDiffMatch', WHERE WHAT IT READS IS OF BULK AT MOST 1048576: true; the input reads as it did. -/
def fnDiffMatchUptoRow : OpenClaim := { program := "ytcjjkkccollipaa", sum := "bf6fff70bea18f1dd2ce6482a29c9a9161ba1a906771a0c47bd844b2dca2ad89", func := "loop.example/stemma/laws.FnDiffMatch", spec := "fnDiffMatch", unfollowed := true, recurses := true, apart := false, narrowed := true }
def FnDiffMatchUptoSaid : Prop := fnDiffMatchUptoRow.holds Try.pinned (OpenSpec.upto fnDiffMatchSpec)

end Rows
end Go.Proofs.Ytcjjkkccollipaa
