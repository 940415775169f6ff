/-
  DERIVED. GIVEN WITH THE SEED: THE CARDS: each row of YtmlaiacompgcnaaDoorRows.lean that lists a variable, with what it lists TIED to the program's text (the seventh form; the later family's looks); each row that meets fmt, with fmt's text TOLD by the authors' own Lean function (tested against real Go, not proved from fmt's source: count such statements apart). THE CARD IS WHAT COUNTS. Prove the row's statement (the work); the ties are given (YtmlaiacompgcnaaDoorTie.lean); close each card by the builder's one call (the guide's Derived/Test/ToyasCard.lean, 'card_holds'). Laid BY PROGRAM, IN A SANDBOX (cutbox-door.mjs). By AI agents, Wed Nov 11 2026. No macro, syntax, notation, axiom, sorry.
-/
import Derived.Test.YtmlaiacompgcnaaDoorRows
import GoSem.ClaimSeven
namespace Go.Proofs.YtmlaiacompgcnaaDoor
namespace Rows

/-- THE TIED CARD OF 'davitlaw17.WorkPlays'. -/
def workPlaysCard : Claim7 := { stood := { row := workPlaysRow, standIns := [], harness := (true, "84a75b47bff86332e107f5e84ea787d5be2c1f05dc86ffafe8a290a8fbebe9ad"), looks := false }, kinds := [], alts := [], laidByText := true, laidKinds := [.data], laidTests := true, laidLooks := .later }
def WorkPlaysCardSaid : Prop := Claim7.holds Tryd.pinned (.plain (OpenSpec.ofChange workPlaysSpec)) workPlaysCard

/-- THE TIED CARD OF 'davitlaw17.WorkOnce'. -/
def workOnceCard : Claim7 := { stood := { row := workOnceRow, standIns := [], harness := (true, "84a75b47bff86332e107f5e84ea787d5be2c1f05dc86ffafe8a290a8fbebe9ad"), looks := false }, kinds := [], alts := [], laidByText := true, laidKinds := [.data], laidTests := true, laidLooks := .later }
def WorkOnceCardSaid : Prop := Claim7.holds Tryd.pinned (.plain (OpenSpec.ofChange workOnceSpec)) workOnceCard

/-- THE TIED CARD OF 'davitlaw17.WorkNil'. -/
def workNilCard : Claim7 := { stood := { row := workNilRow, standIns := [], harness := (true, "84a75b47bff86332e107f5e84ea787d5be2c1f05dc86ffafe8a290a8fbebe9ad"), looks := false }, kinds := [], alts := [], laidByText := true, laidKinds := [.data], laidTests := true, laidLooks := .later }
def WorkNilCardSaid : Prop := Claim7.holds Tryd.pinned (.plain (OpenSpec.ofChange workNilSpec)) workNilCard

/-- THE SECOND FORM's CARD OF 'davitlaw17.WorkPlays'. -/
def workPlaysUptoCard : Claim7 := { stood := { row := workPlaysUptoRow, standIns := [], harness := (true, "84a75b47bff86332e107f5e84ea787d5be2c1f05dc86ffafe8a290a8fbebe9ad"), looks := false }, kinds := [], alts := [], laidByText := true, laidKinds := [.data], laidTests := true, laidLooks := .later }
def WorkPlaysUptoCardSaid : Prop := Claim7.holds Tryd.pinned (.plain (OpenSpec.upto workPlaysSpec)) workPlaysUptoCard

/-- THE SECOND FORM's CARD OF 'davitlaw17.WorkOnce'. -/
def workOnceUptoCard : Claim7 := { stood := { row := workOnceUptoRow, standIns := [], harness := (true, "84a75b47bff86332e107f5e84ea787d5be2c1f05dc86ffafe8a290a8fbebe9ad"), looks := false }, kinds := [], alts := [], laidByText := true, laidKinds := [.data], laidTests := true, laidLooks := .later }
def WorkOnceUptoCardSaid : Prop := Claim7.holds Tryd.pinned (.plain (OpenSpec.upto workOnceSpec)) workOnceUptoCard

/-- THE SECOND FORM's CARD OF 'davitlaw17.WorkNil'. -/
def workNilUptoCard : Claim7 := { stood := { row := workNilUptoRow, standIns := [], harness := (true, "84a75b47bff86332e107f5e84ea787d5be2c1f05dc86ffafe8a290a8fbebe9ad"), looks := false }, kinds := [], alts := [], laidByText := true, laidKinds := [.data], laidTests := true, laidLooks := .later }
def WorkNilUptoCardSaid : Prop := Claim7.holds Tryd.pinned (.plain (OpenSpec.upto workNilSpec)) workNilUptoCard
end Rows
end Go.Proofs.YtmlaiacompgcnaaDoor
