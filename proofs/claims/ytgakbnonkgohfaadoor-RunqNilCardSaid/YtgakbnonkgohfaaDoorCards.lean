/-
  DERIVED. GIVEN WITH THE SEED: THE CARDS: each row of YtgakbnonkgohfaaDoorRows.lean that lists a variable, with what it lists TIED to the program's text (the seventh form; the later family's looks); each row that meets fmt, with fmt's text TOLD by the authors' own Lean function (tested against real Go, not proved from fmt's source: count such statements apart). THE CARD IS WHAT COUNTS. Prove the row's statement (the work); the ties are given (YtgakbnonkgohfaaDoorTie.lean); close each card by the builder's one call (the guide's Derived/Test/ToyasCard.lean, 'card_holds'). Laid BY PROGRAM, IN A SANDBOX (cutbox-door.mjs). By AI agents, Wed Nov 11 2026. No macro, syntax, notation, axiom, sorry.
-/
import Derived.Test.YtgakbnonkgohfaaDoorRows
import GoSem.ClaimSeven
namespace Go.Proofs.YtgakbnonkgohfaaDoor
namespace Rows

/-- THE TIED CARD OF 'davitlaw10.RunqPlays'. -/
def runqPlaysCard : Claim7 := { stood := { row := runqPlaysRow, standIns := [], harness := (true, "9d19052ab6bbc7105759c8b082d9d5facf314d45270932a390c45fac9e89a53e"), looks := false }, kinds := [], alts := [], laidByText := true, laidKinds := [.data], laidTests := true, laidLooks := .later }
def RunqPlaysCardSaid : Prop := Claim7.holds Tryd.pinned (.plain (OpenSpec.ofChange runqPlaysSpec)) runqPlaysCard

/-- THE TIED CARD OF 'davitlaw10.RunqNil'. -/
def runqNilCard : Claim7 := { stood := { row := runqNilRow, standIns := [], harness := (true, "9d19052ab6bbc7105759c8b082d9d5facf314d45270932a390c45fac9e89a53e"), looks := false }, kinds := [], alts := [], laidByText := true, laidKinds := [.data], laidTests := true, laidLooks := .later }
def RunqNilCardSaid : Prop := Claim7.holds Tryd.pinned (.plain (OpenSpec.ofChange runqNilSpec)) runqNilCard

/-- THE SECOND FORM's CARD OF 'davitlaw10.RunqPlays'. -/
def runqPlaysUptoCard : Claim7 := { stood := { row := runqPlaysUptoRow, standIns := [], harness := (true, "9d19052ab6bbc7105759c8b082d9d5facf314d45270932a390c45fac9e89a53e"), looks := false }, kinds := [], alts := [], laidByText := true, laidKinds := [.data], laidTests := true, laidLooks := .later }
def RunqPlaysUptoCardSaid : Prop := Claim7.holds Tryd.pinned (.plain (OpenSpec.upto runqPlaysSpec)) runqPlaysUptoCard

/-- THE SECOND FORM's CARD OF 'davitlaw10.RunqNil'. -/
def runqNilUptoCard : Claim7 := { stood := { row := runqNilUptoRow, standIns := [], harness := (true, "9d19052ab6bbc7105759c8b082d9d5facf314d45270932a390c45fac9e89a53e"), looks := false }, kinds := [], alts := [], laidByText := true, laidKinds := [.data], laidTests := true, laidLooks := .later }
def RunqNilUptoCardSaid : Prop := Claim7.holds Tryd.pinned (.plain (OpenSpec.upto runqNilSpec)) runqNilUptoCard
end Rows
end Go.Proofs.YtgakbnonkgohfaaDoor
