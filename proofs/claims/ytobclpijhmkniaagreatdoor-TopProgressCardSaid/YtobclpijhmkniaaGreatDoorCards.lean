/-
  DERIVED. GIVEN WITH THE SEED: THE CARDS: each row of YtobclpijhmkniaaGreatDoorRows.lean that lists a variable, with what it lists TIED to the program's text (the seventh form; the later family's looks); each row that meets fmt, with fmt's text TOLD by the authors' own Lean function (tested against real Go, not proved from fmt's source: count such statements apart). THE CARD IS WHAT COUNTS. Prove the row's statement (the work); the ties are given (YtobclpijhmkniaaGreatDoorTie.lean); close each card by the builder's one call (the guide's Derived/Test/ToyasCard.lean, 'card_holds'). Laid BY PROGRAM, IN A SANDBOX (cutbox-door.mjs). By AI agents, Wed Nov 11 2026. No macro, syntax, notation, axiom, sorry.
-/
import Derived.Test.YtobclpijhmkniaaGreatDoorRows
import GoSem.ClaimSeven
namespace Go.Proofs.YtobclpijhmkniaaGreatDoor
namespace Rows

/-- THE TIED CARD OF 'davittop.TopBalances'. -/
def topBalancesCard : Claim7 := { stood := { row := topBalancesRow, standIns := [], harness := (true, "0e65ecc442919d8f7507c3135b3b0b7b0e312bba7162964d12b2698cb6d35998"), looks := false }, kinds := [], alts := [], laidByText := true, laidKinds := [.data], laidTests := true, laidLooks := .later }
def TopBalancesCardSaid : Prop := Claim7.holds Tryz.pinned (.plain (OpenSpec.ofChange topBalancesSpec)) topBalancesCard

/-- THE TIED CARD OF 'davittop.TopFails'. -/
def topFailsCard : Claim7 := { stood := { row := topFailsRow, standIns := [], harness := (true, "0e65ecc442919d8f7507c3135b3b0b7b0e312bba7162964d12b2698cb6d35998"), looks := false }, kinds := [], alts := [], laidByText := true, laidKinds := [.data], laidTests := true, laidLooks := .later }
def TopFailsCardSaid : Prop := Claim7.holds Tryz.pinned (.plain (OpenSpec.ofChange topFailsSpec)) topFailsCard

/-- THE TIED CARD OF 'davittop.TopTallies'. -/
def topTalliesCard : Claim7 := { stood := { row := topTalliesRow, standIns := [], harness := (true, "0e65ecc442919d8f7507c3135b3b0b7b0e312bba7162964d12b2698cb6d35998"), looks := false }, kinds := [], alts := [], laidByText := true, laidKinds := [.data], laidTests := true, laidLooks := .later }
def TopTalliesCardSaid : Prop := Claim7.holds Tryz.pinned (.plain (OpenSpec.ofChange topTalliesSpec)) topTalliesCard

/-- THE TIED CARD OF 'davittop.TopGone'. -/
def topGoneCard : Claim7 := { stood := { row := topGoneRow, standIns := [], harness := (true, "0e65ecc442919d8f7507c3135b3b0b7b0e312bba7162964d12b2698cb6d35998"), looks := false }, kinds := [], alts := [], laidByText := true, laidKinds := [.data], laidTests := true, laidLooks := .later }
def TopGoneCardSaid : Prop := Claim7.holds Tryz.pinned (.plain (OpenSpec.ofChange topGoneSpec)) topGoneCard

/-- THE TIED CARD OF 'davittop.TopProgress'. -/
def topProgressCard : Claim7 := { stood := { row := topProgressRow, standIns := [], harness := (true, "0e65ecc442919d8f7507c3135b3b0b7b0e312bba7162964d12b2698cb6d35998"), looks := false }, kinds := [], alts := [], laidByText := true, laidKinds := [.data], laidTests := true, laidLooks := .later }
def TopProgressCardSaid : Prop := Claim7.holds Tryz.pinned (.plain (OpenSpec.ofChange topProgressSpec)) topProgressCard

/-- THE SECOND FORM's CARD OF 'davittop.TopBalances'. -/
def topBalancesUptoCard : Claim7 := { stood := { row := topBalancesUptoRow, standIns := [], harness := (true, "0e65ecc442919d8f7507c3135b3b0b7b0e312bba7162964d12b2698cb6d35998"), looks := false }, kinds := [], alts := [], laidByText := true, laidKinds := [.data], laidTests := true, laidLooks := .later }
def TopBalancesUptoCardSaid : Prop := Claim7.holds Tryz.pinned (.plain (OpenSpec.upto topBalancesSpec)) topBalancesUptoCard

/-- THE SECOND FORM's CARD OF 'davittop.TopFails'. -/
def topFailsUptoCard : Claim7 := { stood := { row := topFailsUptoRow, standIns := [], harness := (true, "0e65ecc442919d8f7507c3135b3b0b7b0e312bba7162964d12b2698cb6d35998"), looks := false }, kinds := [], alts := [], laidByText := true, laidKinds := [.data], laidTests := true, laidLooks := .later }
def TopFailsUptoCardSaid : Prop := Claim7.holds Tryz.pinned (.plain (OpenSpec.upto topFailsSpec)) topFailsUptoCard

/-- THE SECOND FORM's CARD OF 'davittop.TopTallies'. -/
def topTalliesUptoCard : Claim7 := { stood := { row := topTalliesUptoRow, standIns := [], harness := (true, "0e65ecc442919d8f7507c3135b3b0b7b0e312bba7162964d12b2698cb6d35998"), looks := false }, kinds := [], alts := [], laidByText := true, laidKinds := [.data], laidTests := true, laidLooks := .later }
def TopTalliesUptoCardSaid : Prop := Claim7.holds Tryz.pinned (.plain (OpenSpec.upto topTalliesSpec)) topTalliesUptoCard

/-- THE SECOND FORM's CARD OF 'davittop.TopGone'. -/
def topGoneUptoCard : Claim7 := { stood := { row := topGoneUptoRow, standIns := [], harness := (true, "0e65ecc442919d8f7507c3135b3b0b7b0e312bba7162964d12b2698cb6d35998"), looks := false }, kinds := [], alts := [], laidByText := true, laidKinds := [.data], laidTests := true, laidLooks := .later }
def TopGoneUptoCardSaid : Prop := Claim7.holds Tryz.pinned (.plain (OpenSpec.upto topGoneSpec)) topGoneUptoCard

/-- THE SECOND FORM's CARD OF 'davittop.TopProgress'. -/
def topProgressUptoCard : Claim7 := { stood := { row := topProgressUptoRow, standIns := [], harness := (true, "0e65ecc442919d8f7507c3135b3b0b7b0e312bba7162964d12b2698cb6d35998"), looks := false }, kinds := [], alts := [], laidByText := true, laidKinds := [.data], laidTests := true, laidLooks := .later }
def TopProgressUptoCardSaid : Prop := Claim7.holds Tryz.pinned (.plain (OpenSpec.upto topProgressSpec)) topProgressUptoCard
end Rows
end Go.Proofs.YtobclpijhmkniaaGreatDoor
