/-
  DERIVED. GIVEN WITH THE SEED: THE CARDS: each row of YticbeaaghiodlaaDoorRows.lean that lists a variable, with what it lists TIED to the program's text (the seventh form; the later family's looks); each row that meets fmt, with fmt's text TOLD by the authors' own Lean function (tested against real Go, not proved from fmt's source: count such statements apart). THE CARD IS WHAT COUNTS. Prove the row's statement (the work); the ties are given (YticbeaaghiodlaaDoorTie.lean); close each card by the builder's one call (the guide's Derived/Test/ToyasCard.lean, 'card_holds'). Laid BY PROGRAM, IN A SANDBOX (cutbox-door.mjs). By AI agents, Wed Nov 11 2026. No macro, syntax, notation, axiom, sorry.
-/
import Derived.Test.YticbeaaghiodlaaDoorRows
import GoSem.ClaimSeven
namespace Go.Proofs.YticbeaaghiodlaaDoor
namespace Rows

/-- THE TIED CARD OF 'davitlaw12.AffinChooses'. -/
def affinChoosesCard : Claim7 := { stood := { row := affinChoosesRow, standIns := [], harness := (true, "0b93657881e7e44f4c51e0e41053799848a1413ebd52a8bc6571adce7b0b1d2b"), looks := false }, kinds := [], alts := [], laidByText := true, laidKinds := [.data], laidTests := true, laidLooks := .later }
def AffinChoosesCardSaid : Prop := Claim7.holds Tryd.pinned (.plain (OpenSpec.ofChange affinChoosesSpec)) affinChoosesCard

/-- THE TIED CARD OF 'davitlaw12.AffinRight'. -/
def affinRightCard : Claim7 := { stood := { row := affinRightRow, standIns := [], harness := (true, "0b93657881e7e44f4c51e0e41053799848a1413ebd52a8bc6571adce7b0b1d2b"), looks := false }, kinds := [], alts := [], laidByText := true, laidKinds := [.data], laidTests := true, laidLooks := .later }
def AffinRightCardSaid : Prop := Claim7.holds Tryd.pinned (.plain (OpenSpec.ofChange affinRightSpec)) affinRightCard

/-- THE TIED CARD OF 'davitlaw12.AffinRepairs'. -/
def affinRepairsCard : Claim7 := { stood := { row := affinRepairsRow, standIns := [], harness := (true, "0b93657881e7e44f4c51e0e41053799848a1413ebd52a8bc6571adce7b0b1d2b"), looks := false }, kinds := [], alts := [], laidByText := true, laidKinds := [.data], laidTests := true, laidLooks := .later }
def AffinRepairsCardSaid : Prop := Claim7.holds Tryd.pinned (.plain (OpenSpec.ofChange affinRepairsSpec)) affinRepairsCard

/-- THE SECOND FORM's CARD OF 'davitlaw12.AffinChooses'. -/
def affinChoosesUptoCard : Claim7 := { stood := { row := affinChoosesUptoRow, standIns := [], harness := (true, "0b93657881e7e44f4c51e0e41053799848a1413ebd52a8bc6571adce7b0b1d2b"), looks := false }, kinds := [], alts := [], laidByText := true, laidKinds := [.data], laidTests := true, laidLooks := .later }
def AffinChoosesUptoCardSaid : Prop := Claim7.holds Tryd.pinned (.plain (OpenSpec.upto affinChoosesSpec)) affinChoosesUptoCard

/-- THE SECOND FORM's CARD OF 'davitlaw12.AffinRight'. -/
def affinRightUptoCard : Claim7 := { stood := { row := affinRightUptoRow, standIns := [], harness := (true, "0b93657881e7e44f4c51e0e41053799848a1413ebd52a8bc6571adce7b0b1d2b"), looks := false }, kinds := [], alts := [], laidByText := true, laidKinds := [.data], laidTests := true, laidLooks := .later }
def AffinRightUptoCardSaid : Prop := Claim7.holds Tryd.pinned (.plain (OpenSpec.upto affinRightSpec)) affinRightUptoCard

/-- THE SECOND FORM's CARD OF 'davitlaw12.AffinRepairs'. -/
def affinRepairsUptoCard : Claim7 := { stood := { row := affinRepairsUptoRow, standIns := [], harness := (true, "0b93657881e7e44f4c51e0e41053799848a1413ebd52a8bc6571adce7b0b1d2b"), looks := false }, kinds := [], alts := [], laidByText := true, laidKinds := [.data], laidTests := true, laidLooks := .later }
def AffinRepairsUptoCardSaid : Prop := Claim7.holds Tryd.pinned (.plain (OpenSpec.upto affinRepairsSpec)) affinRepairsUptoCard
end Rows
end Go.Proofs.YticbeaaghiodlaaDoor
