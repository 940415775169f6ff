/-
  DERIVED. GIVEN WITH THE SEED: THE CARDS: each row of YtjamndjdcfadcaaDoorRows.lean that lists a variable, with what it lists TIED to the program's text (the seventh form; the later family's looks); each row that meets fmt, with fmt's text TOLD by the authors' own Lean function (tested against real Go, not proved from fmt's source: count such statements apart). THE CARD IS WHAT COUNTS. Prove the row's statement (the work); the ties are given (YtjamndjdcfadcaaDoorTie.lean); close each card by the builder's one call (the guide's Derived/Test/ToyasCard.lean, 'card_holds'). Laid BY PROGRAM, IN A SANDBOX (cutbox-door.mjs). By AI agents, Wed Nov 11 2026. No macro, syntax, notation, axiom, sorry.
-/
import Derived.Test.YtjamndjdcfadcaaDoorRows
import GoSem.ClaimSeven
namespace Go.Proofs.YtjamndjdcfadcaaDoor
namespace Rows

/-- THE TIED CARD OF 'davitlaw01.MaskMakes'. -/
def maskMakesCard : Claim7 := { stood := { row := maskMakesRow, standIns := [], harness := (true, "89c2f43e391a2ae4a094d6b8316838d6cb50e031238b254252f3fb00e80d18e8"), looks := false }, kinds := [], alts := [], laidByText := true, laidKinds := [.data], laidTests := true, laidLooks := .later }
def MaskMakesCardSaid : Prop := Claim7.holds Tryd.pinned (.plain (OpenSpec.ofChange maskMakesSpec)) maskMakesCard

/-- THE TIED CARD OF 'davitlaw01.MaskParts'. -/
def maskPartsCard : Claim7 := { stood := { row := maskPartsRow, standIns := [], harness := (true, "89c2f43e391a2ae4a094d6b8316838d6cb50e031238b254252f3fb00e80d18e8"), looks := false }, kinds := [], alts := [], laidByText := true, laidKinds := [.data], laidTests := true, laidLooks := .later }
def MaskPartsCardSaid : Prop := Claim7.holds Tryd.pinned (.plain (OpenSpec.ofChange maskPartsSpec)) maskPartsCard

/-- THE TIED CARD OF 'davitlaw01.MaskRound'. -/
def maskRoundCard : Claim7 := { stood := { row := maskRoundRow, standIns := [], harness := (true, "89c2f43e391a2ae4a094d6b8316838d6cb50e031238b254252f3fb00e80d18e8"), looks := false }, kinds := [], alts := [], laidByText := true, laidKinds := [.data], laidTests := true, laidLooks := .later }
def MaskRoundCardSaid : Prop := Claim7.holds Tryd.pinned (.plain (OpenSpec.ofChange maskRoundSpec)) maskRoundCard

/-- THE TIED CARD OF 'davitlaw01.MaskSums'. -/
def maskSumsCard : Claim7 := { stood := { row := maskSumsRow, standIns := [], harness := (true, "89c2f43e391a2ae4a094d6b8316838d6cb50e031238b254252f3fb00e80d18e8"), looks := false }, kinds := [], alts := [], laidByText := true, laidKinds := [.data], laidTests := true, laidLooks := .later }
def MaskSumsCardSaid : Prop := Claim7.holds Tryd.pinned (.plain (OpenSpec.ofChange maskSumsSpec)) maskSumsCard

/-- THE TIED CARD OF 'davitlaw01.MaskLists'. -/
def maskListsCard : Claim7 := { stood := { row := maskListsRow, standIns := [], harness := (true, "89c2f43e391a2ae4a094d6b8316838d6cb50e031238b254252f3fb00e80d18e8"), looks := false }, kinds := [], alts := [], laidByText := true, laidKinds := [.data], laidTests := true, laidLooks := .later }
def MaskListsCardSaid : Prop := Claim7.holds Tryd.pinned (.plain (OpenSpec.ofChange maskListsSpec)) maskListsCard

/-- THE SECOND FORM's CARD OF 'davitlaw01.MaskMakes'. -/
def maskMakesUptoCard : Claim7 := { stood := { row := maskMakesUptoRow, standIns := [], harness := (true, "89c2f43e391a2ae4a094d6b8316838d6cb50e031238b254252f3fb00e80d18e8"), looks := false }, kinds := [], alts := [], laidByText := true, laidKinds := [.data], laidTests := true, laidLooks := .later }
def MaskMakesUptoCardSaid : Prop := Claim7.holds Tryd.pinned (.plain (OpenSpec.upto maskMakesSpec)) maskMakesUptoCard

/-- THE SECOND FORM's CARD OF 'davitlaw01.MaskParts'. -/
def maskPartsUptoCard : Claim7 := { stood := { row := maskPartsUptoRow, standIns := [], harness := (true, "89c2f43e391a2ae4a094d6b8316838d6cb50e031238b254252f3fb00e80d18e8"), looks := false }, kinds := [], alts := [], laidByText := true, laidKinds := [.data], laidTests := true, laidLooks := .later }
def MaskPartsUptoCardSaid : Prop := Claim7.holds Tryd.pinned (.plain (OpenSpec.upto maskPartsSpec)) maskPartsUptoCard

/-- THE SECOND FORM's CARD OF 'davitlaw01.MaskRound'. -/
def maskRoundUptoCard : Claim7 := { stood := { row := maskRoundUptoRow, standIns := [], harness := (true, "89c2f43e391a2ae4a094d6b8316838d6cb50e031238b254252f3fb00e80d18e8"), looks := false }, kinds := [], alts := [], laidByText := true, laidKinds := [.data], laidTests := true, laidLooks := .later }
def MaskRoundUptoCardSaid : Prop := Claim7.holds Tryd.pinned (.plain (OpenSpec.upto maskRoundSpec)) maskRoundUptoCard

/-- THE SECOND FORM's CARD OF 'davitlaw01.MaskSums'. -/
def maskSumsUptoCard : Claim7 := { stood := { row := maskSumsUptoRow, standIns := [], harness := (true, "89c2f43e391a2ae4a094d6b8316838d6cb50e031238b254252f3fb00e80d18e8"), looks := false }, kinds := [], alts := [], laidByText := true, laidKinds := [.data], laidTests := true, laidLooks := .later }
def MaskSumsUptoCardSaid : Prop := Claim7.holds Tryd.pinned (.plain (OpenSpec.upto maskSumsSpec)) maskSumsUptoCard

/-- THE SECOND FORM's CARD OF 'davitlaw01.MaskLists'. -/
def maskListsUptoCard : Claim7 := { stood := { row := maskListsUptoRow, standIns := [], harness := (true, "89c2f43e391a2ae4a094d6b8316838d6cb50e031238b254252f3fb00e80d18e8"), looks := false }, kinds := [], alts := [], laidByText := true, laidKinds := [.data], laidTests := true, laidLooks := .later }
def MaskListsUptoCardSaid : Prop := Claim7.holds Tryd.pinned (.plain (OpenSpec.upto maskListsSpec)) maskListsUptoCard
end Rows
end Go.Proofs.YtjamndjdcfadcaaDoor
