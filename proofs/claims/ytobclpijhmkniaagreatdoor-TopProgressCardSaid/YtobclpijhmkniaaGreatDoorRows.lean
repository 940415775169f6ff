/-
  NARROWER THAN 'FOR EVERY INPUT', by the rows' own cells (each row's printed sentence says how): TopBalances: laid · TopFails: laid · TopTallies: laid · TopGone: laid · TopProgress: laid.
  DERIVED. THE GIVEN ROWS OF THIS SEAT. 5 by the template 'for every input the law returns true; each argument reads behind the call as it read before'; 0 by the template 'total and deterministic' (their statements: YtobclpijhmkniaaGreatDoorTotals.lean).
  GIVEN WITH THE SEED: the statements are not yours to turn. If you find one false, say at which input.
  Laid BY PROGRAM, IN A SANDBOX (cutbox-rows.mjs): the forced cells as the released guide's own fill.sh prints them over the translation fcf1df1ec5628aa6… (all of the seat's roots in one cut). By AI agents, Wed Nov 11 2026. No macro, syntax, notation, axiom, sorry.
-/
import Derived.Test.YtobclpijhmkniaaGreatDoorChecked
import GoSem.Claim
import GoSem.ClaimJoined
import GoSem.ClaimMapViews
import Derived.JoinedTies
import Derived.KernelRfl
namespace Go.Proofs.YtobclpijhmkniaaGreatDoor
/- THE CELL 'sum', in the pinned program and in every row, IS THE sha256 OF THE DUMP (.gsa) THAT YtobclpijhmkniaaGreatDoorProg.lean LOADS. Nothing in Lean hashes anything: it is a label: what it is worth is what the hold of that sum in a sandbox is worth. -/
noncomputable def Tryz.pinned : Pinned := { name := "ytobclpijhmkniaagreatdoor", sum := "fcf1df1ec5628aa6c09963ad4e07766a62c60ad2cf13389c414fdb5787416cbc", checked := Tryz.checked }
namespace Rows
def none {H : Type} : Left H := { results := [], args := [] }

/- WHAT THE LISTED PACKAGE-LEVEL VARIABLES READ AS WHEN THE CALL BEGINS. Each datum BY PROGRAM (the guide's laid-datum.mjs) off the statement by which the dump's own 'gosem.cut.vars' lays the variable. In a bare row this is a premise. The card (YtobclpijhmkniaaGreatDoorCards.lean) ties it to the program's text. -/
def laid_math_bits_deBruijn64tab {H : Type} : DataW H := .agg [.lit (.int .u8 0), .lit (.int .u8 1), .lit (.int .u8 56), .lit (.int .u8 2), .lit (.int .u8 57), .lit (.int .u8 49), .lit (.int .u8 28), .lit (.int .u8 3), .lit (.int .u8 61), .lit (.int .u8 58), .lit (.int .u8 42), .lit (.int .u8 50), .lit (.int .u8 38), .lit (.int .u8 29), .lit (.int .u8 17), .lit (.int .u8 4), .lit (.int .u8 62), .lit (.int .u8 47), .lit (.int .u8 59), .lit (.int .u8 36), .lit (.int .u8 45), .lit (.int .u8 43), .lit (.int .u8 51), .lit (.int .u8 22), .lit (.int .u8 53), .lit (.int .u8 39), .lit (.int .u8 33), .lit (.int .u8 30), .lit (.int .u8 24), .lit (.int .u8 18), .lit (.int .u8 12), .lit (.int .u8 5), .lit (.int .u8 63), .lit (.int .u8 55), .lit (.int .u8 48), .lit (.int .u8 27), .lit (.int .u8 60), .lit (.int .u8 41), .lit (.int .u8 37), .lit (.int .u8 16), .lit (.int .u8 46), .lit (.int .u8 35), .lit (.int .u8 44), .lit (.int .u8 21), .lit (.int .u8 52), .lit (.int .u8 32), .lit (.int .u8 23), .lit (.int .u8 11), .lit (.int .u8 54), .lit (.int .u8 26), .lit (.int .u8 40), .lit (.int .u8 15), .lit (.int .u8 34), .lit (.int .u8 20), .lit (.int .u8 31), .lit (.int .u8 10), .lit (.int .u8 25), .lit (.int .u8 14), .lit (.int .u8 19), .lit (.int .u8 9), .lit (.int .u8 13), .lit (.int .u8 8), .lit (.int .u8 7), .lit (.int .u8 6)]

/-- 'davittop.TopBalances': WHATEVER THE INPUT: true; the input reads as it did. -/
def topBalancesSpec : ChangeSpec := { name := "topBalances", fn := fun _ => fun
  | [d1, d2] => { results := [.lit (.bool true)], args := [d1, d2] }
  | _ => none }
def topBalancesRow : OpenClaim := { program := "ytobclpijhmkniaagreatdoor", sum := "fcf1df1ec5628aa6c09963ad4e07766a62c60ad2cf13389c414fdb5787416cbc", func := "davit/davittop.TopBalances", spec := "topBalances", inPlace := ["math/bits.Add64"], unfollowed := true, recurses := true, named := ["math/bits.deBruijn64tab", "math/bits.divideError", "math/bits.overflowError"], apart := false, laid := [("math/bits.deBruijn64tab", laid_math_bits_deBruijn64tab)] }
def TopBalancesSaid : Prop := topBalancesRow.holds Tryz.pinned (OpenSpec.ofChange topBalancesSpec)

/-- ITS FALSE NEIGHBOUR: 'it returns false'. Refute it at one input. -/
def topBalancesWrong : ChangeSpec := { name := "topBalances", fn := fun _ => fun
  | [d1, d2] => { results := [.lit (.bool false)], args := [d1, d2] }
  | _ => none }
def TopBalancesWrongFalsely : Prop := topBalancesRow.holds Tryz.pinned (OpenSpec.ofChange topBalancesWrong)

/-- 'davittop.TopFails': WHATEVER THE INPUT: true; the input reads as it did. -/
def topFailsSpec : ChangeSpec := { name := "topFails", fn := fun _ => fun
  | [d1, d2, d3, d4] => { results := [.lit (.bool true)], args := [d1, d2, d3, d4] }
  | _ => none }
def topFailsRow : OpenClaim := { program := "ytobclpijhmkniaagreatdoor", sum := "fcf1df1ec5628aa6c09963ad4e07766a62c60ad2cf13389c414fdb5787416cbc", func := "davit/davittop.TopFails", spec := "topFails", inPlace := ["math/bits.Add64"], unfollowed := true, recurses := true, named := ["math/bits.deBruijn64tab", "math/bits.divideError", "math/bits.overflowError"], apart := false, laid := [("math/bits.deBruijn64tab", laid_math_bits_deBruijn64tab)] }
def TopFailsSaid : Prop := topFailsRow.holds Tryz.pinned (OpenSpec.ofChange topFailsSpec)

/-- ITS FALSE NEIGHBOUR: 'it returns false'. Refute it at one input. -/
def topFailsWrong : ChangeSpec := { name := "topFails", fn := fun _ => fun
  | [d1, d2, d3, d4] => { results := [.lit (.bool false)], args := [d1, d2, d3, d4] }
  | _ => none }
def TopFailsWrongFalsely : Prop := topFailsRow.holds Tryz.pinned (OpenSpec.ofChange topFailsWrong)

/-- 'davittop.TopTallies': WHATEVER THE INPUT: true; the input reads as it did. -/
def topTalliesSpec : ChangeSpec := { name := "topTallies", fn := fun _ => fun
  | [d1, d2] => { results := [.lit (.bool true)], args := [d1, d2] }
  | _ => none }
def topTalliesRow : OpenClaim := { program := "ytobclpijhmkniaagreatdoor", sum := "fcf1df1ec5628aa6c09963ad4e07766a62c60ad2cf13389c414fdb5787416cbc", func := "davit/davittop.TopTallies", spec := "topTallies", inPlace := ["math/bits.Add64"], unfollowed := true, recurses := true, named := ["math/bits.deBruijn64tab", "math/bits.divideError", "math/bits.overflowError"], apart := false, laid := [("math/bits.deBruijn64tab", laid_math_bits_deBruijn64tab)] }
def TopTalliesSaid : Prop := topTalliesRow.holds Tryz.pinned (OpenSpec.ofChange topTalliesSpec)

/-- ITS FALSE NEIGHBOUR: 'it returns false'. Refute it at one input. -/
def topTalliesWrong : ChangeSpec := { name := "topTallies", fn := fun _ => fun
  | [d1, d2] => { results := [.lit (.bool false)], args := [d1, d2] }
  | _ => none }
def TopTalliesWrongFalsely : Prop := topTalliesRow.holds Tryz.pinned (OpenSpec.ofChange topTalliesWrong)

/-- 'davittop.TopGone': WHATEVER THE INPUT: true; the input reads as it did. -/
def topGoneSpec : ChangeSpec := { name := "topGone", fn := fun _ => fun
  | [d1, d2] => { results := [.lit (.bool true)], args := [d1, d2] }
  | _ => none }
def topGoneRow : OpenClaim := { program := "ytobclpijhmkniaagreatdoor", sum := "fcf1df1ec5628aa6c09963ad4e07766a62c60ad2cf13389c414fdb5787416cbc", func := "davit/davittop.TopGone", spec := "topGone", inPlace := ["math/bits.Add64"], unfollowed := true, recurses := true, named := ["math/bits.deBruijn64tab", "math/bits.divideError", "math/bits.overflowError"], apart := false, laid := [("math/bits.deBruijn64tab", laid_math_bits_deBruijn64tab)] }
def TopGoneSaid : Prop := topGoneRow.holds Tryz.pinned (OpenSpec.ofChange topGoneSpec)

/-- ITS FALSE NEIGHBOUR: 'it returns false'. Refute it at one input. -/
def topGoneWrong : ChangeSpec := { name := "topGone", fn := fun _ => fun
  | [d1, d2] => { results := [.lit (.bool false)], args := [d1, d2] }
  | _ => none }
def TopGoneWrongFalsely : Prop := topGoneRow.holds Tryz.pinned (OpenSpec.ofChange topGoneWrong)

/-- 'davittop.TopProgress': WHATEVER THE INPUT: true; the input reads as it did. -/
def topProgressSpec : ChangeSpec := { name := "topProgress", fn := fun _ => fun
  | [d1, d2, d3] => { results := [.lit (.bool true)], args := [d1, d2, d3] }
  | _ => none }
def topProgressRow : OpenClaim := { program := "ytobclpijhmkniaagreatdoor", sum := "fcf1df1ec5628aa6c09963ad4e07766a62c60ad2cf13389c414fdb5787416cbc", func := "davit/davittop.TopProgress", spec := "topProgress", inPlace := ["math/bits.Add64"], unfollowed := true, recurses := true, named := ["math/bits.deBruijn64tab", "math/bits.divideError", "math/bits.overflowError"], apart := false, laid := [("math/bits.deBruijn64tab", laid_math_bits_deBruijn64tab)] }
def TopProgressSaid : Prop := topProgressRow.holds Tryz.pinned (OpenSpec.ofChange topProgressSpec)

/-- ITS FALSE NEIGHBOUR: 'it returns false'. Refute it at one input. -/
def topProgressWrong : ChangeSpec := { name := "topProgress", fn := fun _ => fun
  | [d1, d2, d3] => { results := [.lit (.bool false)], args := [d1, d2, d3] }
  | _ => none }
def TopProgressWrongFalsely : Prop := topProgressRow.holds Tryz.pinned (OpenSpec.ofChange topProgressWrong)

/- THE SECOND FORM. 'bulk': how many values and letters a reading holds, each counted each time it is reached (what is shared counts as often as it is met; a slice's spare places count too). A statement '..UptoSaid' is the law's where the arguments, and the package variables that the reading takes, are together of bulk at most 1048576: NARROWER than '..Said'. Prove '..Said' where nothing that the law and all that it calls make is longer than what came in: it says more and counts as full. Else prove '..UptoSaid'. A law counts once. -/
mutual
def uptoBulk {H : Type} : DataW H → Nat
  | .lit (.string bytes) => bytes.length + 1
  | .lit _ => 1
  | .nil => 1
  | .ptr d => uptoBulk d + 1
  | .slice elems spare => uptoBulkAll elems + uptoBulkAll spare + 1
  | .agg parts => uptoBulkAll parts + 1
  | .iface _ d => uptoBulk d + 1
  | .map entries => uptoBulkEntries entries + 1
  | .held _ => 1
def uptoBulkAll {H : Type} : List (DataW H) → Nat
  | [] => 0
  | d :: r => uptoBulk d + uptoBulkAll r
def uptoBulkEntries {H : Type} : List (Lit × DataW H) → Nat
  | [] => 0
  | x :: r => uptoBulkEntry x + uptoBulkEntries r
def uptoBulkEntry {H : Type} : Lit × DataW H → Nat
  | (.string bytes, d) => bytes.length + uptoBulk d + 1
  | (_, d) => uptoBulk d + 1
 end
def uptoSmall : (H : Type) → List (DataW H) → Bool := fun _ ds => decide (uptoBulkAll ds ≤ 1048576)
def OpenSpec.upto (s : _root_.Go.ChangeSpec) : _root_.Go.OpenSpec := { _root_.Go.OpenSpec.ofChange s with cond := some uptoSmall }

/-- 'davittop.TopBalances', WHERE WHAT IT READS IS OF BULK AT MOST 1048576: true; the input reads as it did. -/
def topBalancesUptoRow : OpenClaim := { program := "ytobclpijhmkniaagreatdoor", sum := "fcf1df1ec5628aa6c09963ad4e07766a62c60ad2cf13389c414fdb5787416cbc", func := "davit/davittop.TopBalances", spec := "topBalances", inPlace := ["math/bits.Add64"], unfollowed := true, recurses := true, named := ["math/bits.deBruijn64tab", "math/bits.divideError", "math/bits.overflowError"], apart := false, laid := [("math/bits.deBruijn64tab", laid_math_bits_deBruijn64tab)], narrowed := true }
def TopBalancesUptoSaid : Prop := topBalancesUptoRow.holds Tryz.pinned (OpenSpec.upto topBalancesSpec)

/-- 'davittop.TopFails', WHERE WHAT IT READS IS OF BULK AT MOST 1048576: true; the input reads as it did. -/
def topFailsUptoRow : OpenClaim := { program := "ytobclpijhmkniaagreatdoor", sum := "fcf1df1ec5628aa6c09963ad4e07766a62c60ad2cf13389c414fdb5787416cbc", func := "davit/davittop.TopFails", spec := "topFails", inPlace := ["math/bits.Add64"], unfollowed := true, recurses := true, named := ["math/bits.deBruijn64tab", "math/bits.divideError", "math/bits.overflowError"], apart := false, laid := [("math/bits.deBruijn64tab", laid_math_bits_deBruijn64tab)], narrowed := true }
def TopFailsUptoSaid : Prop := topFailsUptoRow.holds Tryz.pinned (OpenSpec.upto topFailsSpec)

/-- 'davittop.TopTallies', WHERE WHAT IT READS IS OF BULK AT MOST 1048576: true; the input reads as it did. -/
def topTalliesUptoRow : OpenClaim := { program := "ytobclpijhmkniaagreatdoor", sum := "fcf1df1ec5628aa6c09963ad4e07766a62c60ad2cf13389c414fdb5787416cbc", func := "davit/davittop.TopTallies", spec := "topTallies", inPlace := ["math/bits.Add64"], unfollowed := true, recurses := true, named := ["math/bits.deBruijn64tab", "math/bits.divideError", "math/bits.overflowError"], apart := false, laid := [("math/bits.deBruijn64tab", laid_math_bits_deBruijn64tab)], narrowed := true }
def TopTalliesUptoSaid : Prop := topTalliesUptoRow.holds Tryz.pinned (OpenSpec.upto topTalliesSpec)

/-- 'davittop.TopGone', WHERE WHAT IT READS IS OF BULK AT MOST 1048576: true; the input reads as it did. -/
def topGoneUptoRow : OpenClaim := { program := "ytobclpijhmkniaagreatdoor", sum := "fcf1df1ec5628aa6c09963ad4e07766a62c60ad2cf13389c414fdb5787416cbc", func := "davit/davittop.TopGone", spec := "topGone", inPlace := ["math/bits.Add64"], unfollowed := true, recurses := true, named := ["math/bits.deBruijn64tab", "math/bits.divideError", "math/bits.overflowError"], apart := false, laid := [("math/bits.deBruijn64tab", laid_math_bits_deBruijn64tab)], narrowed := true }
def TopGoneUptoSaid : Prop := topGoneUptoRow.holds Tryz.pinned (OpenSpec.upto topGoneSpec)

/-- 'davittop.TopProgress', WHERE WHAT IT READS IS OF BULK AT MOST 1048576: true; the input reads as it did. -/
def topProgressUptoRow : OpenClaim := { program := "ytobclpijhmkniaagreatdoor", sum := "fcf1df1ec5628aa6c09963ad4e07766a62c60ad2cf13389c414fdb5787416cbc", func := "davit/davittop.TopProgress", spec := "topProgress", inPlace := ["math/bits.Add64"], unfollowed := true, recurses := true, named := ["math/bits.deBruijn64tab", "math/bits.divideError", "math/bits.overflowError"], apart := false, laid := [("math/bits.deBruijn64tab", laid_math_bits_deBruijn64tab)], narrowed := true }
def TopProgressUptoSaid : Prop := topProgressUptoRow.holds Tryz.pinned (OpenSpec.upto topProgressSpec)

end Rows
end Go.Proofs.YtobclpijhmkniaaGreatDoor
