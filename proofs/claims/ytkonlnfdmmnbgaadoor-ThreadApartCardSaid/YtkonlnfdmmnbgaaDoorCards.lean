/-
  DERIVED. GIVEN WITH THE SEED: THE CARDS: each row of YtkonlnfdmmnbgaaDoorRows.lean that lists a variable, with what it lists TIED to the program's text (the seventh form; the later family's looks); each row that meets fmt, with fmt's text TOLD by the authors' own Lean function (tested against real Go, not proved from fmt's source: count such statements apart). THE CARD IS WHAT COUNTS. Prove the row's statement (the work); the ties are given (YtkonlnfdmmnbgaaDoorTie.lean); close each card by the builder's one call (the guide's Derived/Test/ToyasCard.lean, 'card_holds'). Laid BY PROGRAM, IN A SANDBOX (cutbox-door.mjs). By AI agents, Wed Nov 11 2026. No macro, syntax, notation, axiom, sorry.
-/
import Derived.Test.YtkonlnfdmmnbgaaDoorRows
import GoSem.ClaimSeven
namespace Go.Proofs.YtkonlnfdmmnbgaaDoor
namespace Rows

/-- THE TIED CARD OF 'davitlaw11.ThreadPlays'. -/
def threadPlaysCard : Claim7 := { stood := { row := threadPlaysRow, standIns := [], harness := (true, "708ee517017c2898501ab6962329f849085129e52c0aedf3a75bfa7ed9a022bc"), looks := false }, kinds := [], alts := [], laidByText := true, laidKinds := [.data], laidTests := true, laidLooks := .later }
def ThreadPlaysCardSaid : Prop := Claim7.holds Tryd.pinned (.plain (OpenSpec.ofChange threadPlaysSpec)) threadPlaysCard

/-- THE TIED CARD OF 'davitlaw11.ThreadApart'. -/
def threadApartCard : Claim7 := { stood := { row := threadApartRow, standIns := [], harness := (true, "708ee517017c2898501ab6962329f849085129e52c0aedf3a75bfa7ed9a022bc"), looks := false }, kinds := [], alts := [], laidByText := true, laidKinds := [.data], laidTests := true, laidLooks := .later }
def ThreadApartCardSaid : Prop := Claim7.holds Tryd.pinned (.plain (OpenSpec.ofChange threadApartSpec)) threadApartCard

/-- THE TIED CARD OF 'davitlaw11.ThreadNil'. -/
def threadNilCard : Claim7 := { stood := { row := threadNilRow, standIns := [], harness := (true, "708ee517017c2898501ab6962329f849085129e52c0aedf3a75bfa7ed9a022bc"), looks := false }, kinds := [], alts := [], laidByText := true, laidKinds := [.data], laidTests := true, laidLooks := .later }
def ThreadNilCardSaid : Prop := Claim7.holds Tryd.pinned (.plain (OpenSpec.ofChange threadNilSpec)) threadNilCard

/-- THE SECOND FORM's CARD OF 'davitlaw11.ThreadPlays'. -/
def threadPlaysUptoCard : Claim7 := { stood := { row := threadPlaysUptoRow, standIns := [], harness := (true, "708ee517017c2898501ab6962329f849085129e52c0aedf3a75bfa7ed9a022bc"), looks := false }, kinds := [], alts := [], laidByText := true, laidKinds := [.data], laidTests := true, laidLooks := .later }
def ThreadPlaysUptoCardSaid : Prop := Claim7.holds Tryd.pinned (.plain (OpenSpec.upto threadPlaysSpec)) threadPlaysUptoCard

/-- THE SECOND FORM's CARD OF 'davitlaw11.ThreadApart'. -/
def threadApartUptoCard : Claim7 := { stood := { row := threadApartUptoRow, standIns := [], harness := (true, "708ee517017c2898501ab6962329f849085129e52c0aedf3a75bfa7ed9a022bc"), looks := false }, kinds := [], alts := [], laidByText := true, laidKinds := [.data], laidTests := true, laidLooks := .later }
def ThreadApartUptoCardSaid : Prop := Claim7.holds Tryd.pinned (.plain (OpenSpec.upto threadApartSpec)) threadApartUptoCard

/-- THE SECOND FORM's CARD OF 'davitlaw11.ThreadNil'. -/
def threadNilUptoCard : Claim7 := { stood := { row := threadNilUptoRow, standIns := [], harness := (true, "708ee517017c2898501ab6962329f849085129e52c0aedf3a75bfa7ed9a022bc"), looks := false }, kinds := [], alts := [], laidByText := true, laidKinds := [.data], laidTests := true, laidLooks := .later }
def ThreadNilUptoCardSaid : Prop := Claim7.holds Tryd.pinned (.plain (OpenSpec.upto threadNilSpec)) threadNilUptoCard
end Rows
end Go.Proofs.YtkonlnfdmmnbgaaDoor
