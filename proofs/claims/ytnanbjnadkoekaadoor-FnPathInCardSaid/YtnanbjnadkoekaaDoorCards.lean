/-
  DERIVED. GIVEN WITH THE SEED: THE CARDS: each row of YtnanbjnadkoekaaDoorRows.lean that lists a variable, with what it lists TIED to the program's text (the seventh form; the later family's looks); each row that meets fmt, with fmt's text TOLD by the authors' own Lean function (tested against real Go, not proved from fmt's source: count such statements apart). THE CARD IS WHAT COUNTS. Prove the row's statement (the work); the ties are given (YtnanbjnadkoekaaDoorTie.lean); close each card by the builder's one call (the guide's Derived/Test/ToyasCard.lean, 'card_holds'). Laid BY PROGRAM, IN A SANDBOX (cutbox-door.mjs). By AI agents, Wed Nov 11 2026. No macro, syntax, notation, axiom, sorry.
-/
import Derived.Test.YtnanbjnadkoekaaDoorRows
import GoSem.ClaimSeven
namespace Go.Proofs.YtnanbjnadkoekaaDoor
namespace Rows

/-- THE TIED CARD OF 'laws.FnExactPathOk'. -/
def fnExactPathOkCard : Claim7 := { stood := { row := fnExactPathOkRow, standIns := [], harness := (true, "35d86a2fc20f7a051790d60222568155d4152d19825c47e92da81abf83048adb"), looks := false }, kinds := [], alts := [], laidByText := true, laidKinds := [.data, .pinned], laidTests := true, laidLooks := .later }
def FnExactPathOkCardSaid : Prop := Claim7.holds Tryd.pinned (.plain (OpenSpec.ofChange fnExactPathOkSpec)) fnExactPathOkCard

/-- THE TIED CARD OF 'laws.FnExactPathIn'. -/
def fnExactPathInCard : Claim7 := { stood := { row := fnExactPathInRow, standIns := [], harness := (true, "35d86a2fc20f7a051790d60222568155d4152d19825c47e92da81abf83048adb"), looks := false }, kinds := [], alts := [], laidByText := true, laidKinds := [.data, .pinned], laidTests := true, laidLooks := .later }
def FnExactPathInCardSaid : Prop := Claim7.holds Tryd.pinned (.plain (OpenSpec.ofChange fnExactPathInSpec)) fnExactPathInCard

/-- THE TIED CARD OF 'laws.FnPathIn'. -/
def fnPathInCard : Claim7 := { stood := { row := fnPathInRow, standIns := [], harness := (true, "35d86a2fc20f7a051790d60222568155d4152d19825c47e92da81abf83048adb"), looks := false }, kinds := [], alts := [], laidByText := true, laidKinds := [.data, .pinned], laidTests := true, laidLooks := .later }
def FnPathInCardSaid : Prop := Claim7.holds Tryd.pinned (.plain (OpenSpec.ofChange fnPathInSpec)) fnPathInCard

/-- THE TIED CARD OF 'laws.FnExactTreeOk'. -/
def fnExactTreeOkCard : Claim7 := { stood := { row := fnExactTreeOkRow, standIns := [], harness := (true, "35d86a2fc20f7a051790d60222568155d4152d19825c47e92da81abf83048adb"), looks := false }, kinds := [], alts := [], laidByText := true, laidKinds := [.data, .pinned], laidTests := true, laidLooks := .later }
def FnExactTreeOkCardSaid : Prop := Claim7.holds Tryd.pinned (.plain (OpenSpec.ofChange fnExactTreeOkSpec)) fnExactTreeOkCard

/-- THE TIED CARD OF 'laws.FnExactTreeUnder'. -/
def fnExactTreeUnderCard : Claim7 := { stood := { row := fnExactTreeUnderRow, standIns := [], harness := (true, "35d86a2fc20f7a051790d60222568155d4152d19825c47e92da81abf83048adb"), looks := false }, kinds := [], alts := [], laidByText := true, laidKinds := [.data, .pinned], laidTests := true, laidLooks := .later }
def FnExactTreeUnderCardSaid : Prop := Claim7.holds Tryd.pinned (.plain (OpenSpec.ofChange fnExactTreeUnderSpec)) fnExactTreeUnderCard

/-- THE TIED CARD OF 'laws.FnExactTreeDrop'. -/
def fnExactTreeDropCard : Claim7 := { stood := { row := fnExactTreeDropRow, standIns := [], harness := (true, "35d86a2fc20f7a051790d60222568155d4152d19825c47e92da81abf83048adb"), looks := false }, kinds := [], alts := [], laidByText := true, laidKinds := [.data, .pinned], laidTests := true, laidLooks := .later }
def FnExactTreeDropCardSaid : Prop := Claim7.holds Tryd.pinned (.plain (OpenSpec.ofChange fnExactTreeDropSpec)) fnExactTreeDropCard

/-- THE TIED CARD OF 'laws.FnExactTreeGet'. -/
def fnExactTreeGetCard : Claim7 := { stood := { row := fnExactTreeGetRow, standIns := [], harness := (true, "35d86a2fc20f7a051790d60222568155d4152d19825c47e92da81abf83048adb"), looks := false }, kinds := [], alts := [], laidByText := true, laidKinds := [.data, .pinned], laidTests := true, laidLooks := .later }
def FnExactTreeGetCardSaid : Prop := Claim7.holds Tryd.pinned (.plain (OpenSpec.ofChange fnExactTreeGetSpec)) fnExactTreeGetCard

/-- THE TIED CARD OF 'laws.FnExactTreeSet'. -/
def fnExactTreeSetCard : Claim7 := { stood := { row := fnExactTreeSetRow, standIns := [], harness := (true, "35d86a2fc20f7a051790d60222568155d4152d19825c47e92da81abf83048adb"), looks := false }, kinds := [], alts := [], laidByText := true, laidKinds := [.data, .pinned], laidTests := true, laidLooks := .later }
def FnExactTreeSetCardSaid : Prop := Claim7.holds Tryd.pinned (.plain (OpenSpec.ofChange fnExactTreeSetSpec)) fnExactTreeSetCard

/-- THE TIED CARD OF 'laws.FnExactTreeMove'. -/
def fnExactTreeMoveCard : Claim7 := { stood := { row := fnExactTreeMoveRow, standIns := [], harness := (true, "35d86a2fc20f7a051790d60222568155d4152d19825c47e92da81abf83048adb"), looks := false }, kinds := [], alts := [], laidByText := true, laidKinds := [.data, .pinned], laidTests := true, laidLooks := .later }
def FnExactTreeMoveCardSaid : Prop := Claim7.holds Tryd.pinned (.plain (OpenSpec.ofChange fnExactTreeMoveSpec)) fnExactTreeMoveCard

/-- THE SECOND FORM's CARD OF 'laws.FnExactPathOk'. -/
def fnExactPathOkUptoCard : Claim7 := { stood := { row := fnExactPathOkUptoRow, standIns := [], harness := (true, "35d86a2fc20f7a051790d60222568155d4152d19825c47e92da81abf83048adb"), looks := false }, kinds := [], alts := [], laidByText := true, laidKinds := [.data, .pinned], laidTests := true, laidLooks := .later }
def FnExactPathOkUptoCardSaid : Prop := Claim7.holds Tryd.pinned (.plain (OpenSpec.upto fnExactPathOkSpec)) fnExactPathOkUptoCard

/-- THE SECOND FORM's CARD OF 'laws.FnExactPathIn'. -/
def fnExactPathInUptoCard : Claim7 := { stood := { row := fnExactPathInUptoRow, standIns := [], harness := (true, "35d86a2fc20f7a051790d60222568155d4152d19825c47e92da81abf83048adb"), looks := false }, kinds := [], alts := [], laidByText := true, laidKinds := [.data, .pinned], laidTests := true, laidLooks := .later }
def FnExactPathInUptoCardSaid : Prop := Claim7.holds Tryd.pinned (.plain (OpenSpec.upto fnExactPathInSpec)) fnExactPathInUptoCard

/-- THE SECOND FORM's CARD OF 'laws.FnPathIn'. -/
def fnPathInUptoCard : Claim7 := { stood := { row := fnPathInUptoRow, standIns := [], harness := (true, "35d86a2fc20f7a051790d60222568155d4152d19825c47e92da81abf83048adb"), looks := false }, kinds := [], alts := [], laidByText := true, laidKinds := [.data, .pinned], laidTests := true, laidLooks := .later }
def FnPathInUptoCardSaid : Prop := Claim7.holds Tryd.pinned (.plain (OpenSpec.upto fnPathInSpec)) fnPathInUptoCard

/-- THE SECOND FORM's CARD OF 'laws.FnExactTreeOk'. -/
def fnExactTreeOkUptoCard : Claim7 := { stood := { row := fnExactTreeOkUptoRow, standIns := [], harness := (true, "35d86a2fc20f7a051790d60222568155d4152d19825c47e92da81abf83048adb"), looks := false }, kinds := [], alts := [], laidByText := true, laidKinds := [.data, .pinned], laidTests := true, laidLooks := .later }
def FnExactTreeOkUptoCardSaid : Prop := Claim7.holds Tryd.pinned (.plain (OpenSpec.upto fnExactTreeOkSpec)) fnExactTreeOkUptoCard

/-- THE SECOND FORM's CARD OF 'laws.FnExactTreeUnder'. -/
def fnExactTreeUnderUptoCard : Claim7 := { stood := { row := fnExactTreeUnderUptoRow, standIns := [], harness := (true, "35d86a2fc20f7a051790d60222568155d4152d19825c47e92da81abf83048adb"), looks := false }, kinds := [], alts := [], laidByText := true, laidKinds := [.data, .pinned], laidTests := true, laidLooks := .later }
def FnExactTreeUnderUptoCardSaid : Prop := Claim7.holds Tryd.pinned (.plain (OpenSpec.upto fnExactTreeUnderSpec)) fnExactTreeUnderUptoCard

/-- THE SECOND FORM's CARD OF 'laws.FnExactTreeDrop'. -/
def fnExactTreeDropUptoCard : Claim7 := { stood := { row := fnExactTreeDropUptoRow, standIns := [], harness := (true, "35d86a2fc20f7a051790d60222568155d4152d19825c47e92da81abf83048adb"), looks := false }, kinds := [], alts := [], laidByText := true, laidKinds := [.data, .pinned], laidTests := true, laidLooks := .later }
def FnExactTreeDropUptoCardSaid : Prop := Claim7.holds Tryd.pinned (.plain (OpenSpec.upto fnExactTreeDropSpec)) fnExactTreeDropUptoCard

/-- THE SECOND FORM's CARD OF 'laws.FnExactTreeGet'. -/
def fnExactTreeGetUptoCard : Claim7 := { stood := { row := fnExactTreeGetUptoRow, standIns := [], harness := (true, "35d86a2fc20f7a051790d60222568155d4152d19825c47e92da81abf83048adb"), looks := false }, kinds := [], alts := [], laidByText := true, laidKinds := [.data, .pinned], laidTests := true, laidLooks := .later }
def FnExactTreeGetUptoCardSaid : Prop := Claim7.holds Tryd.pinned (.plain (OpenSpec.upto fnExactTreeGetSpec)) fnExactTreeGetUptoCard

/-- THE SECOND FORM's CARD OF 'laws.FnExactTreeSet'. -/
def fnExactTreeSetUptoCard : Claim7 := { stood := { row := fnExactTreeSetUptoRow, standIns := [], harness := (true, "35d86a2fc20f7a051790d60222568155d4152d19825c47e92da81abf83048adb"), looks := false }, kinds := [], alts := [], laidByText := true, laidKinds := [.data, .pinned], laidTests := true, laidLooks := .later }
def FnExactTreeSetUptoCardSaid : Prop := Claim7.holds Tryd.pinned (.plain (OpenSpec.upto fnExactTreeSetSpec)) fnExactTreeSetUptoCard

/-- THE SECOND FORM's CARD OF 'laws.FnExactTreeMove'. -/
def fnExactTreeMoveUptoCard : Claim7 := { stood := { row := fnExactTreeMoveUptoRow, standIns := [], harness := (true, "35d86a2fc20f7a051790d60222568155d4152d19825c47e92da81abf83048adb"), looks := false }, kinds := [], alts := [], laidByText := true, laidKinds := [.data, .pinned], laidTests := true, laidLooks := .later }
def FnExactTreeMoveUptoCardSaid : Prop := Claim7.holds Tryd.pinned (.plain (OpenSpec.upto fnExactTreeMoveSpec)) fnExactTreeMoveUptoCard
end Rows
end Go.Proofs.YtnanbjnadkoekaaDoor
