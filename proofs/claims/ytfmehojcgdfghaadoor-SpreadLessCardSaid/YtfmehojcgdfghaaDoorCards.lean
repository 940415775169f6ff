/-
  DERIVED. GIVEN WITH THE SEED: THE CARDS: each row of YtfmehojcgdfghaaDoorRows.lean that lists a variable, with what it lists TIED to the program's text (the seventh form; the later family's looks); each row that meets fmt, with fmt's text TOLD by the authors' own Lean function (tested against real Go, not proved from fmt's source: count such statements apart). THE CARD IS WHAT COUNTS. Prove the row's statement (the work); the ties are given (YtfmehojcgdfghaaDoorTie.lean); close each card by the builder's one call (the guide's Derived/Test/ToyasCard.lean, 'card_holds'). Laid BY PROGRAM, IN A SANDBOX (cutbox-door.mjs). By AI agents, Wed Nov 11 2026. No macro, syntax, notation, axiom, sorry.
-/
import Derived.Test.YtfmehojcgdfghaaDoorRows
import GoSem.ClaimSeven
namespace Go.Proofs.YtfmehojcgdfghaaDoor
namespace Rows

/-- THE TIED CARD OF 'davitlaw39.SpreadLoads'. -/
def spreadLoadsCard : Claim7 := { stood := { row := spreadLoadsRow, standIns := [], harness := (true, "504115ba1b847c5410daf58f867977999230187c1db3f5d380ea4330e4650eae"), looks := false }, kinds := [], alts := [], laidByText := true, laidKinds := [.data], laidTests := true, laidLooks := .later }
def SpreadLoadsCardSaid : Prop := Claim7.holds Tryd.pinned (.plain (OpenSpec.ofChange spreadLoadsSpec)) spreadLoadsCard

/-- THE TIED CARD OF 'davitlaw39.SpreadPlans'. -/
def spreadPlansCard : Claim7 := { stood := { row := spreadPlansRow, standIns := [], harness := (true, "504115ba1b847c5410daf58f867977999230187c1db3f5d380ea4330e4650eae"), looks := false }, kinds := [], alts := [], laidByText := true, laidKinds := [.data], laidTests := true, laidLooks := .later }
def SpreadPlansCardSaid : Prop := Claim7.holds Tryd.pinned (.plain (OpenSpec.ofChange spreadPlansSpec)) spreadPlansCard

/-- THE TIED CARD OF 'davitlaw39.SpreadEven'. -/
def spreadEvenCard : Claim7 := { stood := { row := spreadEvenRow, standIns := [], harness := (true, "504115ba1b847c5410daf58f867977999230187c1db3f5d380ea4330e4650eae"), looks := false }, kinds := [], alts := [], laidByText := true, laidKinds := [.data], laidTests := true, laidLooks := .later }
def SpreadEvenCardSaid : Prop := Claim7.holds Tryd.pinned (.plain (OpenSpec.ofChange spreadEvenSpec)) spreadEvenCard

/-- THE TIED CARD OF 'davitlaw39.SpreadLess'. -/
def spreadLessCard : Claim7 := { stood := { row := spreadLessRow, standIns := [], harness := (true, "504115ba1b847c5410daf58f867977999230187c1db3f5d380ea4330e4650eae"), looks := false }, kinds := [], alts := [], laidByText := true, laidKinds := [.data], laidTests := true, laidLooks := .later }
def SpreadLessCardSaid : Prop := Claim7.holds Tryd.pinned (.plain (OpenSpec.ofChange spreadLessSpec)) spreadLessCard

/-- THE SECOND FORM's CARD OF 'davitlaw39.SpreadLoads'. -/
def spreadLoadsUptoCard : Claim7 := { stood := { row := spreadLoadsUptoRow, standIns := [], harness := (true, "504115ba1b847c5410daf58f867977999230187c1db3f5d380ea4330e4650eae"), looks := false }, kinds := [], alts := [], laidByText := true, laidKinds := [.data], laidTests := true, laidLooks := .later }
def SpreadLoadsUptoCardSaid : Prop := Claim7.holds Tryd.pinned (.plain (OpenSpec.upto spreadLoadsSpec)) spreadLoadsUptoCard

/-- THE SECOND FORM's CARD OF 'davitlaw39.SpreadPlans'. -/
def spreadPlansUptoCard : Claim7 := { stood := { row := spreadPlansUptoRow, standIns := [], harness := (true, "504115ba1b847c5410daf58f867977999230187c1db3f5d380ea4330e4650eae"), looks := false }, kinds := [], alts := [], laidByText := true, laidKinds := [.data], laidTests := true, laidLooks := .later }
def SpreadPlansUptoCardSaid : Prop := Claim7.holds Tryd.pinned (.plain (OpenSpec.upto spreadPlansSpec)) spreadPlansUptoCard

/-- THE SECOND FORM's CARD OF 'davitlaw39.SpreadEven'. -/
def spreadEvenUptoCard : Claim7 := { stood := { row := spreadEvenUptoRow, standIns := [], harness := (true, "504115ba1b847c5410daf58f867977999230187c1db3f5d380ea4330e4650eae"), looks := false }, kinds := [], alts := [], laidByText := true, laidKinds := [.data], laidTests := true, laidLooks := .later }
def SpreadEvenUptoCardSaid : Prop := Claim7.holds Tryd.pinned (.plain (OpenSpec.upto spreadEvenSpec)) spreadEvenUptoCard

/-- THE SECOND FORM's CARD OF 'davitlaw39.SpreadLess'. -/
def spreadLessUptoCard : Claim7 := { stood := { row := spreadLessUptoRow, standIns := [], harness := (true, "504115ba1b847c5410daf58f867977999230187c1db3f5d380ea4330e4650eae"), looks := false }, kinds := [], alts := [], laidByText := true, laidKinds := [.data], laidTests := true, laidLooks := .later }
def SpreadLessUptoCardSaid : Prop := Claim7.holds Tryd.pinned (.plain (OpenSpec.upto spreadLessSpec)) spreadLessUptoCard
end Rows
end Go.Proofs.YtfmehojcgdfghaaDoor
