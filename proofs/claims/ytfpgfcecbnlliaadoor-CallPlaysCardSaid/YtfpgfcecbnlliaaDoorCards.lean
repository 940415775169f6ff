/-
  DERIVED. GIVEN WITH THE SEED: THE CARDS: each row of YtfpgfcecbnlliaaDoorRows.lean that lists a variable, with what it lists TIED to the program's text (the seventh form; the later family's looks); each row that meets fmt, with fmt's text TOLD by the authors' own Lean function (tested against real Go, not proved from fmt's source: count such statements apart). THE CARD IS WHAT COUNTS. Prove the row's statement (the work); the ties are given (YtfpgfcecbnlliaaDoorTie.lean); close each card by the builder's one call (the guide's Derived/Test/ToyasCard.lean, 'card_holds'). Laid BY PROGRAM, IN A SANDBOX (cutbox-door.mjs). By AI agents, Wed Nov 11 2026. No macro, syntax, notation, axiom, sorry.
-/
import Derived.Test.YtfpgfcecbnlliaaDoorRows
import GoSem.ClaimSeven
namespace Go.Proofs.YtfpgfcecbnlliaaDoor
namespace Rows

/-- THE TIED CARD OF 'davitlaw18.CallPlays'. -/
def callPlaysCard : Claim7 := { stood := { row := callPlaysRow, standIns := [], harness := (true, "62438815c2251eb619e0737fb1c5f9adfc91b6a8c4babb91d2a475f0d9acdbea"), looks := false }, kinds := [], alts := [], laidByText := true, laidKinds := [.data], laidTests := true, laidLooks := .later }
def CallPlaysCardSaid : Prop := Claim7.holds Tryd.pinned (.plain (OpenSpec.ofChange callPlaysSpec)) callPlaysCard

/-- THE TIED CARD OF 'davitlaw18.CallOnce'. -/
def callOnceCard : Claim7 := { stood := { row := callOnceRow, standIns := [], harness := (true, "62438815c2251eb619e0737fb1c5f9adfc91b6a8c4babb91d2a475f0d9acdbea"), looks := false }, kinds := [], alts := [], laidByText := true, laidKinds := [.data], laidTests := true, laidLooks := .later }
def CallOnceCardSaid : Prop := Claim7.holds Tryd.pinned (.plain (OpenSpec.ofChange callOnceSpec)) callOnceCard

/-- THE TIED CARD OF 'davitlaw18.CallNil'. -/
def callNilCard : Claim7 := { stood := { row := callNilRow, standIns := [], harness := (true, "62438815c2251eb619e0737fb1c5f9adfc91b6a8c4babb91d2a475f0d9acdbea"), looks := false }, kinds := [], alts := [], laidByText := true, laidKinds := [.data], laidTests := true, laidLooks := .later }
def CallNilCardSaid : Prop := Claim7.holds Tryd.pinned (.plain (OpenSpec.ofChange callNilSpec)) callNilCard

/-- THE SECOND FORM's CARD OF 'davitlaw18.CallPlays'. -/
def callPlaysUptoCard : Claim7 := { stood := { row := callPlaysUptoRow, standIns := [], harness := (true, "62438815c2251eb619e0737fb1c5f9adfc91b6a8c4babb91d2a475f0d9acdbea"), looks := false }, kinds := [], alts := [], laidByText := true, laidKinds := [.data], laidTests := true, laidLooks := .later }
def CallPlaysUptoCardSaid : Prop := Claim7.holds Tryd.pinned (.plain (OpenSpec.upto callPlaysSpec)) callPlaysUptoCard

/-- THE SECOND FORM's CARD OF 'davitlaw18.CallOnce'. -/
def callOnceUptoCard : Claim7 := { stood := { row := callOnceUptoRow, standIns := [], harness := (true, "62438815c2251eb619e0737fb1c5f9adfc91b6a8c4babb91d2a475f0d9acdbea"), looks := false }, kinds := [], alts := [], laidByText := true, laidKinds := [.data], laidTests := true, laidLooks := .later }
def CallOnceUptoCardSaid : Prop := Claim7.holds Tryd.pinned (.plain (OpenSpec.upto callOnceSpec)) callOnceUptoCard

/-- THE SECOND FORM's CARD OF 'davitlaw18.CallNil'. -/
def callNilUptoCard : Claim7 := { stood := { row := callNilUptoRow, standIns := [], harness := (true, "62438815c2251eb619e0737fb1c5f9adfc91b6a8c4babb91d2a475f0d9acdbea"), looks := false }, kinds := [], alts := [], laidByText := true, laidKinds := [.data], laidTests := true, laidLooks := .later }
def CallNilUptoCardSaid : Prop := Claim7.holds Tryd.pinned (.plain (OpenSpec.upto callNilSpec)) callNilUptoCard
end Rows
end Go.Proofs.YtfpgfcecbnlliaaDoor
