/-
  DERIVED. GIVEN WITH THE SEED: THE CARDS: each row of YtgdkekdedgkglaaDoorRows.lean that lists a variable, with what it lists TIED to the program's text (the seventh form; the later family's looks); each row that meets fmt, with fmt's text TOLD by the authors' own Lean function (tested against real Go, not proved from fmt's source: count such statements apart). THE CARD IS WHAT COUNTS. Prove the row's statement (the work); the ties are given (YtgdkekdedgkglaaDoorTie.lean); close each card by the builder's one call (the guide's Derived/Test/ToyasCard.lean, 'card_holds'). Laid BY PROGRAM, IN A SANDBOX (cutbox-door.mjs). By AI agents, Wed Nov 11 2026. No macro, syntax, notation, axiom, sorry.
-/
import Derived.Test.YtgdkekdedgkglaaDoorRows
import GoSem.ClaimSeven
namespace Go.Proofs.YtgdkekdedgkglaaDoor
namespace Rows

/-- THE TIED CARD OF 'brickyardlaw20.SchedTurns'. -/
def schedTurnsCard : Claim7 := { stood := { row := schedTurnsRow, standIns := [], harness := (true, "fc8c14302e58e0db8d0cf1b54db2f8335e69e9af76a21bd2095d1c5ced996da4"), looks := true }, kinds := [], alts := [], laidByText := true, laidKinds := [.data, .data, .data], laidTests := true, laidLooks := .later }
def SchedTurnsCardSaid : Prop := Claim7.holds Tryd.pinned (.plain (OpenSpec.ofChange schedTurnsSpec)) schedTurnsCard

/-- THE TIED CARD OF 'brickyardlaw13.ActionParses'. -/
def actionParsesCard : Claim7 := { stood := { row := actionParsesRow, standIns := [], harness := (true, "fc8c14302e58e0db8d0cf1b54db2f8335e69e9af76a21bd2095d1c5ced996da4"), looks := true }, kinds := [], alts := [], laidByText := true, laidKinds := [.data, .data, .data, .sentinel, .sentinel], laidTests := true, laidLooks := .later }
def ActionParsesCardSaid : Prop := Claim7.holds Tryd.pinned (.plain (OpenSpec.ofChange actionParsesSpec)) actionParsesCard

/-- THE TIED CARD OF 'brickyardlaw13.ActionNames'. -/
def actionNamesCard : Claim7 := { stood := { row := actionNamesRow, standIns := [], harness := (true, "fc8c14302e58e0db8d0cf1b54db2f8335e69e9af76a21bd2095d1c5ced996da4"), looks := true }, kinds := [], alts := [], laidByText := true, laidKinds := [.data, .data, .data, .sentinel, .sentinel], laidTests := true, laidLooks := .later }
def ActionNamesCardSaid : Prop := Claim7.holds Tryd.pinned (.plain (OpenSpec.ofChange actionNamesSpec)) actionNamesCard

/-- THE TIED CARD OF 'brickyardlaw13.ActionSame'. -/
def actionSameCard : Claim7 := { stood := { row := actionSameRow, standIns := [], harness := (true, "fc8c14302e58e0db8d0cf1b54db2f8335e69e9af76a21bd2095d1c5ced996da4"), looks := true }, kinds := [], alts := [], laidByText := true, laidKinds := [.data, .data, .data, .sentinel, .sentinel], laidTests := true, laidLooks := .later }
def ActionSameCardSaid : Prop := Claim7.holds Tryd.pinned (.plain (OpenSpec.ofChange actionSameSpec)) actionSameCard

/-- THE TIED CARD OF 'brickyardlaw13.ActionCut'. -/
def actionCutCard : Claim7 := { stood := { row := actionCutRow, standIns := [], harness := (true, "fc8c14302e58e0db8d0cf1b54db2f8335e69e9af76a21bd2095d1c5ced996da4"), looks := true }, kinds := [], alts := [], laidByText := true, laidKinds := [.data, .data, .data, .sentinel, .sentinel], laidTests := true, laidLooks := .later }
def ActionCutCardSaid : Prop := Claim7.holds Tryd.pinned (.plain (OpenSpec.ofChange actionCutSpec)) actionCutCard

/-- THE TIED CARD OF 'brickyardlaw13.ActionJoins'. -/
def actionJoinsCard : Claim7 := { stood := { row := actionJoinsRow, standIns := [], harness := (true, "fc8c14302e58e0db8d0cf1b54db2f8335e69e9af76a21bd2095d1c5ced996da4"), looks := true }, kinds := [], alts := [], laidByText := true, laidKinds := [.data, .data, .data, .sentinel, .sentinel], laidTests := true, laidLooks := .later }
def ActionJoinsCardSaid : Prop := Claim7.holds Tryd.pinned (.plain (OpenSpec.ofChange actionJoinsSpec)) actionJoinsCard

/-- THE TIED CARD OF 'brickyardlaw13.ActionPrints'. -/
def actionPrintsCard : Claim7 := { stood := { row := actionPrintsRow, standIns := [], harness := (true, "fc8c14302e58e0db8d0cf1b54db2f8335e69e9af76a21bd2095d1c5ced996da4"), looks := true }, kinds := [], alts := [], laidByText := true, laidKinds := [.data, .data, .data, .sentinel, .sentinel], laidTests := true, laidLooks := .later }
def ActionPrintsCardSaid : Prop := Claim7.holds Tryd.pinned (.plain (OpenSpec.ofChange actionPrintsSpec)) actionPrintsCard

/-- THE TIED CARD OF 'brickyardlaw20.SchedFlows'. -/
def schedFlowsCard : Claim7 := { stood := { row := schedFlowsRow, standIns := [], harness := (true, "fc8c14302e58e0db8d0cf1b54db2f8335e69e9af76a21bd2095d1c5ced996da4"), looks := true }, kinds := [], alts := [], laidByText := true, laidKinds := [.data, .data, .data, .sentinel, .sentinel], laidTests := true, laidLooks := .later }
def SchedFlowsCardSaid : Prop := Claim7.holds Tryd.pinned (.plain (OpenSpec.ofChange schedFlowsSpec)) schedFlowsCard

/-- THE TIED CARD OF 'brickyardlaw13.ActionBack'. -/
def actionBackCard : Claim7 := { stood := { row := actionBackRow, standIns := [], harness := (true, "fc8c14302e58e0db8d0cf1b54db2f8335e69e9af76a21bd2095d1c5ced996da4"), looks := true }, kinds := [], alts := [], laidByText := true, laidKinds := [.data, .data, .data, .sentinel, .sentinel], laidTests := true, laidLooks := .later }
def ActionBackCardSaid : Prop := Claim7.holds Tryd.pinned (.plain (OpenSpec.ofChange actionBackSpec)) actionBackCard

/-- THE SECOND FORM's CARD OF 'brickyardlaw20.SchedTurns'. -/
def schedTurnsUptoCard : Claim7 := { stood := { row := schedTurnsUptoRow, standIns := [], harness := (true, "fc8c14302e58e0db8d0cf1b54db2f8335e69e9af76a21bd2095d1c5ced996da4"), looks := true }, kinds := [], alts := [], laidByText := true, laidKinds := [.data, .data, .data], laidTests := true, laidLooks := .later }
def SchedTurnsUptoCardSaid : Prop := Claim7.holds Tryd.pinned (.plain (OpenSpec.upto schedTurnsSpec)) schedTurnsUptoCard

/-- THE SECOND FORM's CARD OF 'brickyardlaw13.ActionParses'. -/
def actionParsesUptoCard : Claim7 := { stood := { row := actionParsesUptoRow, standIns := [], harness := (true, "fc8c14302e58e0db8d0cf1b54db2f8335e69e9af76a21bd2095d1c5ced996da4"), looks := true }, kinds := [], alts := [], laidByText := true, laidKinds := [.data, .data, .data, .sentinel, .sentinel], laidTests := true, laidLooks := .later }
def ActionParsesUptoCardSaid : Prop := Claim7.holds Tryd.pinned (.plain (OpenSpec.upto actionParsesSpec)) actionParsesUptoCard

/-- THE SECOND FORM's CARD OF 'brickyardlaw13.ActionNames'. -/
def actionNamesUptoCard : Claim7 := { stood := { row := actionNamesUptoRow, standIns := [], harness := (true, "fc8c14302e58e0db8d0cf1b54db2f8335e69e9af76a21bd2095d1c5ced996da4"), looks := true }, kinds := [], alts := [], laidByText := true, laidKinds := [.data, .data, .data, .sentinel, .sentinel], laidTests := true, laidLooks := .later }
def ActionNamesUptoCardSaid : Prop := Claim7.holds Tryd.pinned (.plain (OpenSpec.upto actionNamesSpec)) actionNamesUptoCard

/-- THE SECOND FORM's CARD OF 'brickyardlaw13.ActionSame'. -/
def actionSameUptoCard : Claim7 := { stood := { row := actionSameUptoRow, standIns := [], harness := (true, "fc8c14302e58e0db8d0cf1b54db2f8335e69e9af76a21bd2095d1c5ced996da4"), looks := true }, kinds := [], alts := [], laidByText := true, laidKinds := [.data, .data, .data, .sentinel, .sentinel], laidTests := true, laidLooks := .later }
def ActionSameUptoCardSaid : Prop := Claim7.holds Tryd.pinned (.plain (OpenSpec.upto actionSameSpec)) actionSameUptoCard

/-- THE SECOND FORM's CARD OF 'brickyardlaw13.ActionCut'. -/
def actionCutUptoCard : Claim7 := { stood := { row := actionCutUptoRow, standIns := [], harness := (true, "fc8c14302e58e0db8d0cf1b54db2f8335e69e9af76a21bd2095d1c5ced996da4"), looks := true }, kinds := [], alts := [], laidByText := true, laidKinds := [.data, .data, .data, .sentinel, .sentinel], laidTests := true, laidLooks := .later }
def ActionCutUptoCardSaid : Prop := Claim7.holds Tryd.pinned (.plain (OpenSpec.upto actionCutSpec)) actionCutUptoCard

/-- THE SECOND FORM's CARD OF 'brickyardlaw13.ActionJoins'. -/
def actionJoinsUptoCard : Claim7 := { stood := { row := actionJoinsUptoRow, standIns := [], harness := (true, "fc8c14302e58e0db8d0cf1b54db2f8335e69e9af76a21bd2095d1c5ced996da4"), looks := true }, kinds := [], alts := [], laidByText := true, laidKinds := [.data, .data, .data, .sentinel, .sentinel], laidTests := true, laidLooks := .later }
def ActionJoinsUptoCardSaid : Prop := Claim7.holds Tryd.pinned (.plain (OpenSpec.upto actionJoinsSpec)) actionJoinsUptoCard

/-- THE SECOND FORM's CARD OF 'brickyardlaw13.ActionPrints'. -/
def actionPrintsUptoCard : Claim7 := { stood := { row := actionPrintsUptoRow, standIns := [], harness := (true, "fc8c14302e58e0db8d0cf1b54db2f8335e69e9af76a21bd2095d1c5ced996da4"), looks := true }, kinds := [], alts := [], laidByText := true, laidKinds := [.data, .data, .data, .sentinel, .sentinel], laidTests := true, laidLooks := .later }
def ActionPrintsUptoCardSaid : Prop := Claim7.holds Tryd.pinned (.plain (OpenSpec.upto actionPrintsSpec)) actionPrintsUptoCard

/-- THE SECOND FORM's CARD OF 'brickyardlaw20.SchedFlows'. -/
def schedFlowsUptoCard : Claim7 := { stood := { row := schedFlowsUptoRow, standIns := [], harness := (true, "fc8c14302e58e0db8d0cf1b54db2f8335e69e9af76a21bd2095d1c5ced996da4"), looks := true }, kinds := [], alts := [], laidByText := true, laidKinds := [.data, .data, .data, .sentinel, .sentinel], laidTests := true, laidLooks := .later }
def SchedFlowsUptoCardSaid : Prop := Claim7.holds Tryd.pinned (.plain (OpenSpec.upto schedFlowsSpec)) schedFlowsUptoCard

/-- THE SECOND FORM's CARD OF 'brickyardlaw13.ActionBack'. -/
def actionBackUptoCard : Claim7 := { stood := { row := actionBackUptoRow, standIns := [], harness := (true, "fc8c14302e58e0db8d0cf1b54db2f8335e69e9af76a21bd2095d1c5ced996da4"), looks := true }, kinds := [], alts := [], laidByText := true, laidKinds := [.data, .data, .data, .sentinel, .sentinel], laidTests := true, laidLooks := .later }
def ActionBackUptoCardSaid : Prop := Claim7.holds Tryd.pinned (.plain (OpenSpec.upto actionBackSpec)) actionBackUptoCard
end Rows
end Go.Proofs.YtgdkekdedgkglaaDoor
