/-
  DERIVED. GIVEN WITH THE SEED: THE CARDS: each row of YtmcacnhmdfnpgaaDoorRows.lean that lists a variable, with what it lists TIED to the program's text (the seventh form; the later family's looks); each row that meets fmt, with fmt's text TOLD by the authors' own Lean function (tested against real Go, not proved from fmt's source: count such statements apart). THE CARD IS WHAT COUNTS. Prove the row's statement (the work); the ties are given (YtmcacnhmdfnpgaaDoorTie.lean); close each card by the builder's one call (the guide's Derived/Test/ToyasCard.lean, 'card_holds'). Laid BY PROGRAM, IN A SANDBOX (cutbox-door.mjs). By AI agents, Wed Nov 11 2026. No macro, syntax, notation, axiom, sorry.
-/
import Derived.Test.YtmcacnhmdfnpgaaDoorRows
import GoSem.ClaimSeven
namespace Go.Proofs.YtmcacnhmdfnpgaaDoor
namespace Rows

/-- THE TIED CARD OF 'laws.FnExactRepoOk'. -/
def fnExactRepoOkCard : Claim7 := { stood := { row := fnExactRepoOkRow, standIns := [], harness := (true, "f9ce0dae3fd1bd73ac97b134c86188927fcabc2fe4e5807e5a173b107dcbce80"), looks := false }, kinds := [], alts := [], laidByText := true, laidKinds := [.data, .pinned], laidTests := true, laidLooks := .later }
def FnExactRepoOkCardSaid : Prop := Claim7.holds Tryd.pinned (.plain (OpenSpec.ofChange fnExactRepoOkSpec)) fnExactRepoOkCard

/-- THE TIED CARD OF 'laws.FnExactRepoAt'. -/
def fnExactRepoAtCard : Claim7 := { stood := { row := fnExactRepoAtRow, standIns := [], harness := (true, "f9ce0dae3fd1bd73ac97b134c86188927fcabc2fe4e5807e5a173b107dcbce80"), looks := false }, kinds := [], alts := [], laidByText := true, laidKinds := [.data, .pinned], laidTests := true, laidLooks := .later }
def FnExactRepoAtCardSaid : Prop := Claim7.holds Tryd.pinned (.plain (OpenSpec.ofChange fnExactRepoAtSpec)) fnExactRepoAtCard

/-- THE TIED CARD OF 'laws.FnExactAncIs'. -/
def fnExactAncIsCard : Claim7 := { stood := { row := fnExactAncIsRow, standIns := [], harness := (true, "f9ce0dae3fd1bd73ac97b134c86188927fcabc2fe4e5807e5a173b107dcbce80"), looks := false }, kinds := [], alts := [], laidByText := true, laidKinds := [.data, .pinned], laidTests := true, laidLooks := .later }
def FnExactAncIsCardSaid : Prop := Claim7.holds Tryd.pinned (.plain (OpenSpec.ofChange fnExactAncIsSpec)) fnExactAncIsCard

/-- THE TIED CARD OF 'laws.FnExactPatchPut'. -/
def fnExactPatchPutCard : Claim7 := { stood := { row := fnExactPatchPutRow, standIns := [], harness := (true, "f9ce0dae3fd1bd73ac97b134c86188927fcabc2fe4e5807e5a173b107dcbce80"), looks := false }, kinds := [], alts := [], laidByText := true, laidKinds := [.data, .data, .data], laidTests := true, laidLooks := .later }
def FnExactPatchPutCardSaid : Prop := Claim7.holds Tryd.pinned (.plain (OpenSpec.ofChange fnExactPatchPutSpec)) fnExactPatchPutCard

/-- THE TIED CARD OF 'laws.FnExactAncLine'. -/
def fnExactAncLineCard : Claim7 := { stood := { row := fnExactAncLineRow, standIns := [], harness := (true, "f9ce0dae3fd1bd73ac97b134c86188927fcabc2fe4e5807e5a173b107dcbce80"), looks := false }, kinds := [], alts := [], laidByText := true, laidKinds := [.data, .pinned], laidTests := true, laidLooks := .later }
def FnExactAncLineCardSaid : Prop := Claim7.holds Tryd.pinned (.plain (OpenSpec.ofChange fnExactAncLineSpec)) fnExactAncLineCard

/-- THE SECOND FORM's CARD OF 'laws.FnExactRepoOk'. -/
def fnExactRepoOkUptoCard : Claim7 := { stood := { row := fnExactRepoOkUptoRow, standIns := [], harness := (true, "f9ce0dae3fd1bd73ac97b134c86188927fcabc2fe4e5807e5a173b107dcbce80"), looks := false }, kinds := [], alts := [], laidByText := true, laidKinds := [.data, .pinned], laidTests := true, laidLooks := .later }
def FnExactRepoOkUptoCardSaid : Prop := Claim7.holds Tryd.pinned (.plain (OpenSpec.upto fnExactRepoOkSpec)) fnExactRepoOkUptoCard

/-- THE SECOND FORM's CARD OF 'laws.FnExactRepoAt'. -/
def fnExactRepoAtUptoCard : Claim7 := { stood := { row := fnExactRepoAtUptoRow, standIns := [], harness := (true, "f9ce0dae3fd1bd73ac97b134c86188927fcabc2fe4e5807e5a173b107dcbce80"), looks := false }, kinds := [], alts := [], laidByText := true, laidKinds := [.data, .pinned], laidTests := true, laidLooks := .later }
def FnExactRepoAtUptoCardSaid : Prop := Claim7.holds Tryd.pinned (.plain (OpenSpec.upto fnExactRepoAtSpec)) fnExactRepoAtUptoCard

/-- THE SECOND FORM's CARD OF 'laws.FnExactAncIs'. -/
def fnExactAncIsUptoCard : Claim7 := { stood := { row := fnExactAncIsUptoRow, standIns := [], harness := (true, "f9ce0dae3fd1bd73ac97b134c86188927fcabc2fe4e5807e5a173b107dcbce80"), looks := false }, kinds := [], alts := [], laidByText := true, laidKinds := [.data, .pinned], laidTests := true, laidLooks := .later }
def FnExactAncIsUptoCardSaid : Prop := Claim7.holds Tryd.pinned (.plain (OpenSpec.upto fnExactAncIsSpec)) fnExactAncIsUptoCard

/-- THE SECOND FORM's CARD OF 'laws.FnExactPatchPut'. -/
def fnExactPatchPutUptoCard : Claim7 := { stood := { row := fnExactPatchPutUptoRow, standIns := [], harness := (true, "f9ce0dae3fd1bd73ac97b134c86188927fcabc2fe4e5807e5a173b107dcbce80"), looks := false }, kinds := [], alts := [], laidByText := true, laidKinds := [.data, .data, .data], laidTests := true, laidLooks := .later }
def FnExactPatchPutUptoCardSaid : Prop := Claim7.holds Tryd.pinned (.plain (OpenSpec.upto fnExactPatchPutSpec)) fnExactPatchPutUptoCard

/-- THE SECOND FORM's CARD OF 'laws.FnExactAncLine'. -/
def fnExactAncLineUptoCard : Claim7 := { stood := { row := fnExactAncLineUptoRow, standIns := [], harness := (true, "f9ce0dae3fd1bd73ac97b134c86188927fcabc2fe4e5807e5a173b107dcbce80"), looks := false }, kinds := [], alts := [], laidByText := true, laidKinds := [.data, .pinned], laidTests := true, laidLooks := .later }
def FnExactAncLineUptoCardSaid : Prop := Claim7.holds Tryd.pinned (.plain (OpenSpec.upto fnExactAncLineSpec)) fnExactAncLineUptoCard
end Rows
end Go.Proofs.YtmcacnhmdfnpgaaDoor
