/-
  NARROWER THAN 'FOR EVERY INPUT', by the rows' own cells (each row's printed sentence says how): MaskMakes: laid · MaskParts: laid · MaskRound: laid · MaskSums: laid · MaskLists: laid.
  DERIVED. THE GIVEN ROWS OF THIS SEAT. 5 by the template 'for every input the law returns true; each argument reads behind the call as it read before'; 0 by the template 'total and deterministic' (their statements: YtjamndjdcfadcaaDoorTotals.lean).
  GIVEN WITH THE SEED: the statements are not yours to turn. If you find one false, say at which input.
  Laid BY PROGRAM, IN A SANDBOX (cutbox-rows.mjs): the forced cells as the released guide's own fill.sh prints them over the translation 4f069e02d21e13be… (all of the seat's roots in one cut). By AI agents, Wed Nov 11 2026. No macro, syntax, notation, axiom, sorry.
-/
import Derived.Test.YtjamndjdcfadcaaDoorChecked
import GoSem.Claim
import GoSem.ClaimJoined
import GoSem.ClaimMapViews
import Derived.JoinedTies
import Derived.KernelRfl
namespace Go.Proofs.YtjamndjdcfadcaaDoor
/- THE CELL 'sum', in the pinned program and in every row, IS THE sha256 OF THE DUMP (.gsa) THAT YtjamndjdcfadcaaDoorProg.lean LOADS. Nothing in Lean hashes anything: it is a label: what it is worth is what the hold of that sum in a sandbox is worth. -/
noncomputable def Tryd.pinned : Pinned := { name := "ytjamndjdcfadcaadoor", sum := "4f069e02d21e13befe74cbaeb337c376c1d2913988257447a8726f16c89a9e81", checked := Tryd.checked }
namespace Rows
def none {H : Type} : Left H := { results := [], args := [] }

/- WHAT THE LISTED PACKAGE-LEVEL VARIABLES READ AS WHEN THE CALL BEGINS. Each datum BY PROGRAM (the guide's laid-datum.mjs) off the statement by which the dump's own 'gosem.cut.vars' lays the variable. In a bare row this is a premise. The card (YtjamndjdcfadcaaDoorCards.lean) ties it to the program's text. -/
def laid_math_bits_deBruijn64tab {H : Type} : DataW H := .agg [.lit (.int .u8 0), .lit (.int .u8 1), .lit (.int .u8 56), .lit (.int .u8 2), .lit (.int .u8 57), .lit (.int .u8 49), .lit (.int .u8 28), .lit (.int .u8 3), .lit (.int .u8 61), .lit (.int .u8 58), .lit (.int .u8 42), .lit (.int .u8 50), .lit (.int .u8 38), .lit (.int .u8 29), .lit (.int .u8 17), .lit (.int .u8 4), .lit (.int .u8 62), .lit (.int .u8 47), .lit (.int .u8 59), .lit (.int .u8 36), .lit (.int .u8 45), .lit (.int .u8 43), .lit (.int .u8 51), .lit (.int .u8 22), .lit (.int .u8 53), .lit (.int .u8 39), .lit (.int .u8 33), .lit (.int .u8 30), .lit (.int .u8 24), .lit (.int .u8 18), .lit (.int .u8 12), .lit (.int .u8 5), .lit (.int .u8 63), .lit (.int .u8 55), .lit (.int .u8 48), .lit (.int .u8 27), .lit (.int .u8 60), .lit (.int .u8 41), .lit (.int .u8 37), .lit (.int .u8 16), .lit (.int .u8 46), .lit (.int .u8 35), .lit (.int .u8 44), .lit (.int .u8 21), .lit (.int .u8 52), .lit (.int .u8 32), .lit (.int .u8 23), .lit (.int .u8 11), .lit (.int .u8 54), .lit (.int .u8 26), .lit (.int .u8 40), .lit (.int .u8 15), .lit (.int .u8 34), .lit (.int .u8 20), .lit (.int .u8 31), .lit (.int .u8 10), .lit (.int .u8 25), .lit (.int .u8 14), .lit (.int .u8 19), .lit (.int .u8 9), .lit (.int .u8 13), .lit (.int .u8 8), .lit (.int .u8 7), .lit (.int .u8 6)]

/-- 'davitlaw01.MaskMakes': WHATEVER THE INPUT: true; the input reads as it did. -/
def maskMakesSpec : ChangeSpec := { name := "maskMakes", fn := fun _ => fun
  | [d1, d2, d3] => { results := [.lit (.bool true)], args := [d1, d2, d3] }
  | _ => none }
def maskMakesRow : OpenClaim := { program := "ytjamndjdcfadcaadoor", sum := "4f069e02d21e13befe74cbaeb337c376c1d2913988257447a8726f16c89a9e81", func := "davit/davitlaw01.MaskMakes", spec := "maskMakes", named := ["math/bits.deBruijn64tab"], apart := false, laid := [("math/bits.deBruijn64tab", laid_math_bits_deBruijn64tab)] }
def MaskMakesSaid : Prop := maskMakesRow.holds Tryd.pinned (OpenSpec.ofChange maskMakesSpec)

/-- ITS FALSE NEIGHBOUR: 'it returns false'. Refute it at one input. -/
def maskMakesWrong : ChangeSpec := { name := "maskMakes", fn := fun _ => fun
  | [d1, d2, d3] => { results := [.lit (.bool false)], args := [d1, d2, d3] }
  | _ => none }
def MaskMakesWrongFalsely : Prop := maskMakesRow.holds Tryd.pinned (OpenSpec.ofChange maskMakesWrong)

/-- 'davitlaw01.MaskParts': WHATEVER THE INPUT: true; the input reads as it did. -/
def maskPartsSpec : ChangeSpec := { name := "maskParts", fn := fun _ => fun
  | [d1, d2] => { results := [.lit (.bool true)], args := [d1, d2] }
  | _ => none }
def maskPartsRow : OpenClaim := { program := "ytjamndjdcfadcaadoor", sum := "4f069e02d21e13befe74cbaeb337c376c1d2913988257447a8726f16c89a9e81", func := "davit/davitlaw01.MaskParts", spec := "maskParts", named := ["math/bits.deBruijn64tab"], apart := false, laid := [("math/bits.deBruijn64tab", laid_math_bits_deBruijn64tab)] }
def MaskPartsSaid : Prop := maskPartsRow.holds Tryd.pinned (OpenSpec.ofChange maskPartsSpec)

/-- ITS FALSE NEIGHBOUR: 'it returns false'. Refute it at one input. -/
def maskPartsWrong : ChangeSpec := { name := "maskParts", fn := fun _ => fun
  | [d1, d2] => { results := [.lit (.bool false)], args := [d1, d2] }
  | _ => none }
def MaskPartsWrongFalsely : Prop := maskPartsRow.holds Tryd.pinned (OpenSpec.ofChange maskPartsWrong)

/-- 'davitlaw01.MaskRound': WHATEVER THE INPUT: true; the input reads as it did. -/
def maskRoundSpec : ChangeSpec := { name := "maskRound", fn := fun _ => fun
  | [d1, d2] => { results := [.lit (.bool true)], args := [d1, d2] }
  | _ => none }
def maskRoundRow : OpenClaim := { program := "ytjamndjdcfadcaadoor", sum := "4f069e02d21e13befe74cbaeb337c376c1d2913988257447a8726f16c89a9e81", func := "davit/davitlaw01.MaskRound", spec := "maskRound", named := ["math/bits.deBruijn64tab"], apart := false, laid := [("math/bits.deBruijn64tab", laid_math_bits_deBruijn64tab)] }
def MaskRoundSaid : Prop := maskRoundRow.holds Tryd.pinned (OpenSpec.ofChange maskRoundSpec)

/-- ITS FALSE NEIGHBOUR: 'it returns false'. Refute it at one input. -/
def maskRoundWrong : ChangeSpec := { name := "maskRound", fn := fun _ => fun
  | [d1, d2] => { results := [.lit (.bool false)], args := [d1, d2] }
  | _ => none }
def MaskRoundWrongFalsely : Prop := maskRoundRow.holds Tryd.pinned (OpenSpec.ofChange maskRoundWrong)

/-- 'davitlaw01.MaskSums': WHATEVER THE INPUT: true; the input reads as it did. -/
def maskSumsSpec : ChangeSpec := { name := "maskSums", fn := fun _ => fun
  | [d1, d2] => { results := [.lit (.bool true)], args := [d1, d2] }
  | _ => none }
def maskSumsRow : OpenClaim := { program := "ytjamndjdcfadcaadoor", sum := "4f069e02d21e13befe74cbaeb337c376c1d2913988257447a8726f16c89a9e81", func := "davit/davitlaw01.MaskSums", spec := "maskSums", named := ["math/bits.deBruijn64tab"], apart := false, laid := [("math/bits.deBruijn64tab", laid_math_bits_deBruijn64tab)] }
def MaskSumsSaid : Prop := maskSumsRow.holds Tryd.pinned (OpenSpec.ofChange maskSumsSpec)

/-- ITS FALSE NEIGHBOUR: 'it returns false'. Refute it at one input. -/
def maskSumsWrong : ChangeSpec := { name := "maskSums", fn := fun _ => fun
  | [d1, d2] => { results := [.lit (.bool false)], args := [d1, d2] }
  | _ => none }
def MaskSumsWrongFalsely : Prop := maskSumsRow.holds Tryd.pinned (OpenSpec.ofChange maskSumsWrong)

/-- 'davitlaw01.MaskLists': WHATEVER THE INPUT: true; the input reads as it did. -/
def maskListsSpec : ChangeSpec := { name := "maskLists", fn := fun _ => fun
  | [d1, d2] => { results := [.lit (.bool true)], args := [d1, d2] }
  | _ => none }
def maskListsRow : OpenClaim := { program := "ytjamndjdcfadcaadoor", sum := "4f069e02d21e13befe74cbaeb337c376c1d2913988257447a8726f16c89a9e81", func := "davit/davitlaw01.MaskLists", spec := "maskLists", named := ["math/bits.deBruijn64tab"], apart := false, laid := [("math/bits.deBruijn64tab", laid_math_bits_deBruijn64tab)] }
def MaskListsSaid : Prop := maskListsRow.holds Tryd.pinned (OpenSpec.ofChange maskListsSpec)

/-- ITS FALSE NEIGHBOUR: 'it returns false'. Refute it at one input. -/
def maskListsWrong : ChangeSpec := { name := "maskLists", fn := fun _ => fun
  | [d1, d2] => { results := [.lit (.bool false)], args := [d1, d2] }
  | _ => none }
def MaskListsWrongFalsely : Prop := maskListsRow.holds Tryd.pinned (OpenSpec.ofChange maskListsWrong)

/- THE SECOND FORM. 'bulk': how many values and letters a reading holds, each counted each time it is reached (what is shared counts as often as it is met; a slice's spare places count too). A statement '..UptoSaid' is the law's where the arguments, and the package variables that the reading takes, are together of bulk at most 1048576: NARROWER than '..Said'. Prove '..Said' where nothing that the law and all that it calls make is longer than what came in: it says more and counts as full. Else prove '..UptoSaid'. A law counts once. -/
mutual
def uptoBulk {H : Type} : DataW H → Nat
  | .lit (.string bytes) => bytes.length + 1
  | .lit _ => 1
  | .nil => 1
  | .ptr d => uptoBulk d + 1
  | .slice elems spare => uptoBulkAll elems + uptoBulkAll spare + 1
  | .agg parts => uptoBulkAll parts + 1
  | .iface _ d => uptoBulk d + 1
  | .map entries => uptoBulkEntries entries + 1
  | .held _ => 1
def uptoBulkAll {H : Type} : List (DataW H) → Nat
  | [] => 0
  | d :: r => uptoBulk d + uptoBulkAll r
def uptoBulkEntries {H : Type} : List (Lit × DataW H) → Nat
  | [] => 0
  | x :: r => uptoBulkEntry x + uptoBulkEntries r
def uptoBulkEntry {H : Type} : Lit × DataW H → Nat
  | (.string bytes, d) => bytes.length + uptoBulk d + 1
  | (_, d) => uptoBulk d + 1
 end
def uptoSmall : (H : Type) → List (DataW H) → Bool := fun _ ds => decide (uptoBulkAll ds ≤ 1048576)
def OpenSpec.upto (s : _root_.Go.ChangeSpec) : _root_.Go.OpenSpec := { _root_.Go.OpenSpec.ofChange s with cond := some uptoSmall }

/-- 'davitlaw01.MaskMakes', WHERE WHAT IT READS IS OF BULK AT MOST 1048576: true; the input reads as it did. -/
def maskMakesUptoRow : OpenClaim := { program := "ytjamndjdcfadcaadoor", sum := "4f069e02d21e13befe74cbaeb337c376c1d2913988257447a8726f16c89a9e81", func := "davit/davitlaw01.MaskMakes", spec := "maskMakes", named := ["math/bits.deBruijn64tab"], apart := false, laid := [("math/bits.deBruijn64tab", laid_math_bits_deBruijn64tab)], narrowed := true }
def MaskMakesUptoSaid : Prop := maskMakesUptoRow.holds Tryd.pinned (OpenSpec.upto maskMakesSpec)

/-- 'davitlaw01.MaskParts', WHERE WHAT IT READS IS OF BULK AT MOST 1048576: true; the input reads as it did. -/
def maskPartsUptoRow : OpenClaim := { program := "ytjamndjdcfadcaadoor", sum := "4f069e02d21e13befe74cbaeb337c376c1d2913988257447a8726f16c89a9e81", func := "davit/davitlaw01.MaskParts", spec := "maskParts", named := ["math/bits.deBruijn64tab"], apart := false, laid := [("math/bits.deBruijn64tab", laid_math_bits_deBruijn64tab)], narrowed := true }
def MaskPartsUptoSaid : Prop := maskPartsUptoRow.holds Tryd.pinned (OpenSpec.upto maskPartsSpec)

/-- 'davitlaw01.MaskRound', WHERE WHAT IT READS IS OF BULK AT MOST 1048576: true; the input reads as it did. -/
def maskRoundUptoRow : OpenClaim := { program := "ytjamndjdcfadcaadoor", sum := "4f069e02d21e13befe74cbaeb337c376c1d2913988257447a8726f16c89a9e81", func := "davit/davitlaw01.MaskRound", spec := "maskRound", named := ["math/bits.deBruijn64tab"], apart := false, laid := [("math/bits.deBruijn64tab", laid_math_bits_deBruijn64tab)], narrowed := true }
def MaskRoundUptoSaid : Prop := maskRoundUptoRow.holds Tryd.pinned (OpenSpec.upto maskRoundSpec)

/-- 'davitlaw01.MaskSums', WHERE WHAT IT READS IS OF BULK AT MOST 1048576: true; the input reads as it did. -/
def maskSumsUptoRow : OpenClaim := { program := "ytjamndjdcfadcaadoor", sum := "4f069e02d21e13befe74cbaeb337c376c1d2913988257447a8726f16c89a9e81", func := "davit/davitlaw01.MaskSums", spec := "maskSums", named := ["math/bits.deBruijn64tab"], apart := false, laid := [("math/bits.deBruijn64tab", laid_math_bits_deBruijn64tab)], narrowed := true }
def MaskSumsUptoSaid : Prop := maskSumsUptoRow.holds Tryd.pinned (OpenSpec.upto maskSumsSpec)

/-- 'davitlaw01.MaskLists', WHERE WHAT IT READS IS OF BULK AT MOST 1048576: true; the input reads as it did. -/
def maskListsUptoRow : OpenClaim := { program := "ytjamndjdcfadcaadoor", sum := "4f069e02d21e13befe74cbaeb337c376c1d2913988257447a8726f16c89a9e81", func := "davit/davitlaw01.MaskLists", spec := "maskLists", named := ["math/bits.deBruijn64tab"], apart := false, laid := [("math/bits.deBruijn64tab", laid_math_bits_deBruijn64tab)], narrowed := true }
def MaskListsUptoSaid : Prop := maskListsUptoRow.holds Tryd.pinned (OpenSpec.upto maskListsSpec)

end Rows
end Go.Proofs.YtjamndjdcfadcaaDoor
