/-
  DERIVED. GIVEN WITH THE SEED: THE CARDS: each row of YtokmhpfheaaajaaDoorRows.lean that lists a variable, with what it lists TIED to the program's text (the seventh form; the later family's looks); each row that meets fmt, with fmt's text TOLD by the authors' own Lean function (tested against real Go, not proved from fmt's source: count such statements apart). THE CARD IS WHAT COUNTS. Prove the row's statement (the work); the ties are given (YtokmhpfheaaajaaDoorTie.lean); close each card by the builder's one call (the guide's Derived/Test/ToyasCard.lean, 'card_holds'). Laid BY PROGRAM, IN A SANDBOX (cutbox-door.mjs). By AI agents, Wed Nov 11 2026. No macro, syntax, notation, axiom, sorry.
-/
import Derived.Test.YtokmhpfheaaajaaDoorRows
import GoSem.ClaimSeven
namespace Go.Proofs.YtokmhpfheaaajaaDoor
namespace Rows

/-- THE TIED CARD OF 'davitlaw04.SlotOnce'. -/
def slotOnceCard : Claim7 := { stood := { row := slotOnceRow, standIns := [], harness := (true, "c09891e368102d296842a5d39097114dfc221c1f7f55196f1b10e99e3cc3ab0b"), looks := false }, kinds := [], alts := [], laidByText := true, laidKinds := [.data], laidTests := true, laidLooks := .later }
def SlotOnceCardSaid : Prop := Claim7.holds Tryd.pinned (.plain (OpenSpec.ofChange slotOnceSpec)) slotOnceCard

/-- THE TIED CARD OF 'davitlaw04.SlotPlays'. -/
def slotPlaysCard : Claim7 := { stood := { row := slotPlaysRow, standIns := [], harness := (true, "c09891e368102d296842a5d39097114dfc221c1f7f55196f1b10e99e3cc3ab0b"), looks := false }, kinds := [], alts := [], laidByText := true, laidKinds := [.data], laidTests := true, laidLooks := .later }
def SlotPlaysCardSaid : Prop := Claim7.holds Tryd.pinned (.plain (OpenSpec.ofChange slotPlaysSpec)) slotPlaysCard

/-- THE TIED CARD OF 'davitlaw04.SlotNil'. -/
def slotNilCard : Claim7 := { stood := { row := slotNilRow, standIns := [], harness := (true, "c09891e368102d296842a5d39097114dfc221c1f7f55196f1b10e99e3cc3ab0b"), looks := false }, kinds := [], alts := [], laidByText := true, laidKinds := [.data], laidTests := true, laidLooks := .later }
def SlotNilCardSaid : Prop := Claim7.holds Tryd.pinned (.plain (OpenSpec.ofChange slotNilSpec)) slotNilCard

/-- THE SECOND FORM's CARD OF 'davitlaw04.SlotOnce'. -/
def slotOnceUptoCard : Claim7 := { stood := { row := slotOnceUptoRow, standIns := [], harness := (true, "c09891e368102d296842a5d39097114dfc221c1f7f55196f1b10e99e3cc3ab0b"), looks := false }, kinds := [], alts := [], laidByText := true, laidKinds := [.data], laidTests := true, laidLooks := .later }
def SlotOnceUptoCardSaid : Prop := Claim7.holds Tryd.pinned (.plain (OpenSpec.upto slotOnceSpec)) slotOnceUptoCard

/-- THE SECOND FORM's CARD OF 'davitlaw04.SlotPlays'. -/
def slotPlaysUptoCard : Claim7 := { stood := { row := slotPlaysUptoRow, standIns := [], harness := (true, "c09891e368102d296842a5d39097114dfc221c1f7f55196f1b10e99e3cc3ab0b"), looks := false }, kinds := [], alts := [], laidByText := true, laidKinds := [.data], laidTests := true, laidLooks := .later }
def SlotPlaysUptoCardSaid : Prop := Claim7.holds Tryd.pinned (.plain (OpenSpec.upto slotPlaysSpec)) slotPlaysUptoCard

/-- THE SECOND FORM's CARD OF 'davitlaw04.SlotNil'. -/
def slotNilUptoCard : Claim7 := { stood := { row := slotNilUptoRow, standIns := [], harness := (true, "c09891e368102d296842a5d39097114dfc221c1f7f55196f1b10e99e3cc3ab0b"), looks := false }, kinds := [], alts := [], laidByText := true, laidKinds := [.data], laidTests := true, laidLooks := .later }
def SlotNilUptoCardSaid : Prop := Claim7.holds Tryd.pinned (.plain (OpenSpec.upto slotNilSpec)) slotNilUptoCard
end Rows
end Go.Proofs.YtokmhpfheaaajaaDoor
