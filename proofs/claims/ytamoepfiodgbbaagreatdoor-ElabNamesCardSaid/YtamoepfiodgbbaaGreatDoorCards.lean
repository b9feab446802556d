/-
  DERIVED. GIVEN WITH THE SEED: THE CARDS: each row of YtamoepfiodgbbaaGreatDoorRows.lean that lists a variable, with what it lists TIED to the program's text (the seventh form; the later family's looks); each row that meets fmt, with fmt's text TOLD by the authors' own Lean function (tested against real Go, not proved from fmt's source: count such statements apart). THE CARD IS WHAT COUNTS. Prove the row's statement (the work); the ties are given (YtamoepfiodgbbaaGreatDoorTie.lean); close each card by the builder's one call (the guide's Derived/Test/ToyasCard.lean, 'card_holds'). Laid BY PROGRAM, IN A SANDBOX (cutbox-door.mjs). By AI agents, Wed Nov 11 2026. No macro, syntax, notation, axiom, sorry.
-/
import Derived.Test.YtamoepfiodgbbaaGreatDoorRows
import GoSem.ClaimSeven
namespace Go.Proofs.YtamoepfiodgbbaaGreatDoor
namespace Rows

/-- THE TIED CARD OF 'brickyardlaw15.ElabValues'. -/
def elabValuesCard : Claim7 := { stood := { row := elabValuesRow, standIns := [], harness := (true, "d31cfdda2849f8d1a981e5a84ce9a8a60a71207379ab77e700449ba028179129"), looks := true }, kinds := [], alts := [], laidByText := true, laidKinds := [.data, .data, .data, .data, .sentinel, .sentinel, .pinned], laidTests := true, laidLooks := .later }
def ElabValuesCardSaid : Prop := Claim7.holds Tryz.pinned (.plain (OpenSpec.ofChange elabValuesSpec)) elabValuesCard

/-- THE TIED CARD OF 'brickyardlaw15.ElabIncludes'. -/
def elabIncludesCard : Claim7 := { stood := { row := elabIncludesRow, standIns := [], harness := (true, "d31cfdda2849f8d1a981e5a84ce9a8a60a71207379ab77e700449ba028179129"), looks := true }, kinds := [], alts := [], laidByText := true, laidKinds := [.data, .data, .data, .data, .sentinel, .sentinel, .pinned], laidTests := true, laidLooks := .later }
def ElabIncludesCardSaid : Prop := Claim7.holds Tryz.pinned (.plain (OpenSpec.ofChange elabIncludesSpec)) elabIncludesCard

/-- THE TIED CARD OF 'brickyardlaw15.ElabNames'. -/
def elabNamesCard : Claim7 := { stood := { row := elabNamesRow, standIns := [], harness := (true, "d31cfdda2849f8d1a981e5a84ce9a8a60a71207379ab77e700449ba028179129"), looks := true }, kinds := [], alts := [], laidByText := true, laidKinds := [.data, .data, .data, .data, .sentinel, .sentinel, .pinned], laidTests := true, laidLooks := .later }
def ElabNamesCardSaid : Prop := Claim7.holds Tryz.pinned (.plain (OpenSpec.ofChange elabNamesSpec)) elabNamesCard

/-- THE TIED CARD OF 'brickyardlaw15.ElabNone'. -/
def elabNoneCard : Claim7 := { stood := { row := elabNoneRow, standIns := [], harness := (true, "d31cfdda2849f8d1a981e5a84ce9a8a60a71207379ab77e700449ba028179129"), looks := true }, kinds := [], alts := [], laidByText := true, laidKinds := [.data, .data, .data, .data, .sentinel, .sentinel, .pinned], laidTests := true, laidLooks := .later }
def ElabNoneCardSaid : Prop := Claim7.holds Tryz.pinned (.plain (OpenSpec.ofChange elabNoneSpec)) elabNoneCard

/-- THE TIED CARD OF 'brickyardlaw15.ElabTexts'. -/
def elabTextsCard : Claim7 := { stood := { row := elabTextsRow, standIns := [], harness := (true, "d31cfdda2849f8d1a981e5a84ce9a8a60a71207379ab77e700449ba028179129"), looks := true }, kinds := [], alts := [], laidByText := true, laidKinds := [.data, .data, .data, .data, .sentinel, .sentinel, .pinned], laidTests := true, laidLooks := .later }
def ElabTextsCardSaid : Prop := Claim7.holds Tryz.pinned (.plain (OpenSpec.ofChange elabTextsSpec)) elabTextsCard

/-- THE SECOND FORM's CARD OF 'brickyardlaw15.ElabValues'. -/
def elabValuesUptoCard : Claim7 := { stood := { row := elabValuesUptoRow, standIns := [], harness := (true, "d31cfdda2849f8d1a981e5a84ce9a8a60a71207379ab77e700449ba028179129"), looks := true }, kinds := [], alts := [], laidByText := true, laidKinds := [.data, .data, .data, .data, .sentinel, .sentinel, .pinned], laidTests := true, laidLooks := .later }
def ElabValuesUptoCardSaid : Prop := Claim7.holds Tryz.pinned (.plain (OpenSpec.upto elabValuesSpec)) elabValuesUptoCard

/-- THE SECOND FORM's CARD OF 'brickyardlaw15.ElabIncludes'. -/
def elabIncludesUptoCard : Claim7 := { stood := { row := elabIncludesUptoRow, standIns := [], harness := (true, "d31cfdda2849f8d1a981e5a84ce9a8a60a71207379ab77e700449ba028179129"), looks := true }, kinds := [], alts := [], laidByText := true, laidKinds := [.data, .data, .data, .data, .sentinel, .sentinel, .pinned], laidTests := true, laidLooks := .later }
def ElabIncludesUptoCardSaid : Prop := Claim7.holds Tryz.pinned (.plain (OpenSpec.upto elabIncludesSpec)) elabIncludesUptoCard

/-- THE SECOND FORM's CARD OF 'brickyardlaw15.ElabNames'. -/
def elabNamesUptoCard : Claim7 := { stood := { row := elabNamesUptoRow, standIns := [], harness := (true, "d31cfdda2849f8d1a981e5a84ce9a8a60a71207379ab77e700449ba028179129"), looks := true }, kinds := [], alts := [], laidByText := true, laidKinds := [.data, .data, .data, .data, .sentinel, .sentinel, .pinned], laidTests := true, laidLooks := .later }
def ElabNamesUptoCardSaid : Prop := Claim7.holds Tryz.pinned (.plain (OpenSpec.upto elabNamesSpec)) elabNamesUptoCard

/-- THE SECOND FORM's CARD OF 'brickyardlaw15.ElabNone'. -/
def elabNoneUptoCard : Claim7 := { stood := { row := elabNoneUptoRow, standIns := [], harness := (true, "d31cfdda2849f8d1a981e5a84ce9a8a60a71207379ab77e700449ba028179129"), looks := true }, kinds := [], alts := [], laidByText := true, laidKinds := [.data, .data, .data, .data, .sentinel, .sentinel, .pinned], laidTests := true, laidLooks := .later }
def ElabNoneUptoCardSaid : Prop := Claim7.holds Tryz.pinned (.plain (OpenSpec.upto elabNoneSpec)) elabNoneUptoCard

/-- THE SECOND FORM's CARD OF 'brickyardlaw15.ElabTexts'. -/
def elabTextsUptoCard : Claim7 := { stood := { row := elabTextsUptoRow, standIns := [], harness := (true, "d31cfdda2849f8d1a981e5a84ce9a8a60a71207379ab77e700449ba028179129"), looks := true }, kinds := [], alts := [], laidByText := true, laidKinds := [.data, .data, .data, .data, .sentinel, .sentinel, .pinned], laidTests := true, laidLooks := .later }
def ElabTextsUptoCardSaid : Prop := Claim7.holds Tryz.pinned (.plain (OpenSpec.upto elabTextsSpec)) elabTextsUptoCard
end Rows
end Go.Proofs.YtamoepfiodgbbaaGreatDoor
