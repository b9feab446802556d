/-
  DERIVED. GIVEN WITH THE SEED: THE CARDS: each row of YtkbioibemcmanaaGreatDoorRows.lean that lists a variable, with what it lists TIED to the program's text (the seventh form; the later family's looks); each row that meets fmt, with fmt's text TOLD by the authors' own Lean function (tested against real Go, not proved from fmt's source: count such statements apart). THE CARD IS WHAT COUNTS. Prove the row's statement (the work); the ties are given (YtkbioibemcmanaaGreatDoorTie.lean); close each card by the builder's one call (the guide's Derived/Test/ToyasCard.lean, 'card_holds'). Laid BY PROGRAM, IN A SANDBOX (cutbox-door.mjs). By AI agents, Wed Nov 11 2026. No macro, syntax, notation, axiom, sorry.
-/
import Derived.Test.YtkbioibemcmanaaGreatDoorRows
import GoSem.ClaimSeven
namespace Go.Proofs.YtkbioibemcmanaaGreatDoor
namespace Rows

/-- THE TIED CARD OF 'brickyardlaw21.CleanKnown'. -/
def cleanKnownCard : Claim7 := { stood := { row := cleanKnownRow, standIns := [], harness := (true, "53f50bc616ac43a8584b95281366856cc1fe41dbea94dbfbb8532ecad0fba35b"), looks := true }, kinds := [], alts := [], laidByText := true, laidKinds := [.data, .data, .data, .data, .sentinel, .sentinel, .pinned], laidTests := true, laidLooks := .later }
def CleanKnownCardSaid : Prop := Claim7.holds Tryz.pinned (.plain (OpenSpec.ofChange cleanKnownSpec)) cleanKnownCard

/-- THE SECOND FORM's CARD OF 'brickyardlaw21.CleanKnown'. -/
def cleanKnownUptoCard : Claim7 := { stood := { row := cleanKnownUptoRow, standIns := [], harness := (true, "53f50bc616ac43a8584b95281366856cc1fe41dbea94dbfbb8532ecad0fba35b"), looks := true }, kinds := [], alts := [], laidByText := true, laidKinds := [.data, .data, .data, .data, .sentinel, .sentinel, .pinned], laidTests := true, laidLooks := .later }
def CleanKnownUptoCardSaid : Prop := Claim7.holds Tryz.pinned (.plain (OpenSpec.upto cleanKnownSpec)) cleanKnownUptoCard
end Rows
end Go.Proofs.YtkbioibemcmanaaGreatDoor
