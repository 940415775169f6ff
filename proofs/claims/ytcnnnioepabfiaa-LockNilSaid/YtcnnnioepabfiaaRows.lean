/-
  No cell of these rows narrows 'for every input' (looked for: loops, veiled, ifaces, maps, wideKeys, modest, calm, conditions, laid).
  DERIVED. THE GIVEN ROWS OF THIS SEAT. 5 by the template 'for every input the law returns true; each argument reads behind the call as it read before'; 0 by the template 'total and deterministic' (their statements: YtcnnnioepabfiaaTotals.lean).
  GIVEN WITH THE SEED: the statements are not yours to turn. If you find one false, say at which input.
  Laid BY PROGRAM, IN A SANDBOX (cutbox-rows.mjs): the forced cells as the released guide's own fill.sh prints them over the translation f88afd5b1b7e1981… (all of the seat's roots in one cut). By AI agents, Wed Nov 11 2026. No macro, syntax, notation, axiom, sorry.
-/
import Derived.Test.YtcnnnioepabfiaaChecked
import GoSem.Claim
import GoSem.ClaimJoined
import GoSem.ClaimMapViews
import Derived.JoinedTies
import Derived.KernelRfl
namespace Go.Proofs.Ytcnnnioepabfiaa
/- THE CELL 'sum', in the pinned program and in every row, IS THE sha256 OF THE DUMP (.gsa) THAT YtcnnnioepabfiaaProg.lean LOADS. Nothing in Lean hashes anything: it is a label: what it is worth is what the hold of that sum in a sandbox is worth. -/
noncomputable def Try.pinned : Pinned := { name := "ytcnnnioepabfiaa", sum := "f88afd5b1b7e198198a3a41ed0cf1cce1549dc081684be38e6862050c5d4ade0", checked := Try.checked }
namespace Rows
def none {H : Type} : Left H := { results := [], args := [] }

/-- 'davitlaw05.LockFair': WHATEVER THE INPUT: true; the input reads as it did. -/
def lockFairSpec : ChangeSpec := { name := "lockFair", fn := fun _ => fun
  | [d] => { results := [.lit (.bool true)], args := [d] }
  | _ => none }
def lockFairRow : OpenClaim := { program := "ytcnnnioepabfiaa", sum := "f88afd5b1b7e198198a3a41ed0cf1cce1549dc081684be38e6862050c5d4ade0", func := "davit/davitlaw05.LockFair", spec := "lockFair", apart := false }
def LockFairSaid : Prop := lockFairRow.holds Try.pinned (OpenSpec.ofChange lockFairSpec)

/-- ITS FALSE NEIGHBOUR: 'it returns false'. Refute it at one input. -/
def lockFairWrong : ChangeSpec := { name := "lockFair", fn := fun _ => fun
  | [d] => { results := [.lit (.bool false)], args := [d] }
  | _ => none }
def LockFairWrongFalsely : Prop := lockFairRow.holds Try.pinned (OpenSpec.ofChange lockFairWrong)

/-- 'davitlaw05.LockSpins': WHATEVER THE INPUT: true; the input reads as it did. -/
def lockSpinsSpec : ChangeSpec := { name := "lockSpins", fn := fun _ => fun
  | [d] => { results := [.lit (.bool true)], args := [d] }
  | _ => none }
def lockSpinsRow : OpenClaim := { program := "ytcnnnioepabfiaa", sum := "f88afd5b1b7e198198a3a41ed0cf1cce1549dc081684be38e6862050c5d4ade0", func := "davit/davitlaw05.LockSpins", spec := "lockSpins", apart := false }
def LockSpinsSaid : Prop := lockSpinsRow.holds Try.pinned (OpenSpec.ofChange lockSpinsSpec)

/-- ITS FALSE NEIGHBOUR: 'it returns false'. Refute it at one input. -/
def lockSpinsWrong : ChangeSpec := { name := "lockSpins", fn := fun _ => fun
  | [d] => { results := [.lit (.bool false)], args := [d] }
  | _ => none }
def LockSpinsWrongFalsely : Prop := lockSpinsRow.holds Try.pinned (OpenSpec.ofChange lockSpinsWrong)

/-- 'davitlaw05.LockPairs': WHATEVER THE INPUT: true; the input reads as it did. -/
def lockPairsSpec : ChangeSpec := { name := "lockPairs", fn := fun _ => fun
  | [d1, d2] => { results := [.lit (.bool true)], args := [d1, d2] }
  | _ => none }
def lockPairsRow : OpenClaim := { program := "ytcnnnioepabfiaa", sum := "f88afd5b1b7e198198a3a41ed0cf1cce1549dc081684be38e6862050c5d4ade0", func := "davit/davitlaw05.LockPairs", spec := "lockPairs", apart := false }
def LockPairsSaid : Prop := lockPairsRow.holds Try.pinned (OpenSpec.ofChange lockPairsSpec)

/-- ITS FALSE NEIGHBOUR: 'it returns false'. Refute it at one input. -/
def lockPairsWrong : ChangeSpec := { name := "lockPairs", fn := fun _ => fun
  | [d1, d2] => { results := [.lit (.bool false)], args := [d1, d2] }
  | _ => none }
def LockPairsWrongFalsely : Prop := lockPairsRow.holds Try.pinned (OpenSpec.ofChange lockPairsWrong)

/-- 'davitlaw05.LockWhole': WHATEVER THE INPUT: true; the input reads as it did. -/
def lockWholeSpec : ChangeSpec := { name := "lockWhole", fn := fun _ => fun
  | [d] => { results := [.lit (.bool true)], args := [d] }
  | _ => none }
def lockWholeRow : OpenClaim := { program := "ytcnnnioepabfiaa", sum := "f88afd5b1b7e198198a3a41ed0cf1cce1549dc081684be38e6862050c5d4ade0", func := "davit/davitlaw05.LockWhole", spec := "lockWhole", apart := false }
def LockWholeSaid : Prop := lockWholeRow.holds Try.pinned (OpenSpec.ofChange lockWholeSpec)

/-- ITS FALSE NEIGHBOUR: 'it returns false'. Refute it at one input. -/
def lockWholeWrong : ChangeSpec := { name := "lockWhole", fn := fun _ => fun
  | [d] => { results := [.lit (.bool false)], args := [d] }
  | _ => none }
def LockWholeWrongFalsely : Prop := lockWholeRow.holds Try.pinned (OpenSpec.ofChange lockWholeWrong)

/-- 'davitlaw05.LockNil': WHATEVER THE INPUT: true; the input reads as it did. -/
def lockNilSpec : ChangeSpec := { name := "lockNil", fn := fun _ => fun
  | [d1, d2] => { results := [.lit (.bool true)], args := [d1, d2] }
  | _ => none }
def lockNilRow : OpenClaim := { program := "ytcnnnioepabfiaa", sum := "f88afd5b1b7e198198a3a41ed0cf1cce1549dc081684be38e6862050c5d4ade0", func := "davit/davitlaw05.LockNil", spec := "lockNil", apart := false }
def LockNilSaid : Prop := lockNilRow.holds Try.pinned (OpenSpec.ofChange lockNilSpec)

/-- ITS FALSE NEIGHBOUR: 'it returns false'. Refute it at one input. -/
def lockNilWrong : ChangeSpec := { name := "lockNil", fn := fun _ => fun
  | [d1, d2] => { results := [.lit (.bool false)], args := [d1, d2] }
  | _ => none }
def LockNilWrongFalsely : Prop := lockNilRow.holds Try.pinned (OpenSpec.ofChange lockNilWrong)

/- THE SECOND FORM. 'bulk': how many values and letters a reading holds, each counted each time it is reached (what is shared counts as often as it is met; a slice's spare places count too). A statement '..UptoSaid' is the law's where the arguments, and the package variables that the reading takes, are together of bulk at most 1048576: NARROWER than '..Said'. Prove '..Said' where nothing that the law and all that it calls make is longer than what came in: it says more and counts as full. Else prove '..UptoSaid'. A law counts once. -/
mutual
def uptoBulk {H : Type} : DataW H → Nat
  | .lit (.string bytes) => bytes.length + 1
  | .lit _ => 1
  | .nil => 1
  | .ptr d => uptoBulk d + 1
  | .slice elems spare => uptoBulkAll elems + uptoBulkAll spare + 1
  | .agg parts => uptoBulkAll parts + 1
  | .iface _ d => uptoBulk d + 1
  | .map entries => uptoBulkEntries entries + 1
  | .held _ => 1
def uptoBulkAll {H : Type} : List (DataW H) → Nat
  | [] => 0
  | d :: r => uptoBulk d + uptoBulkAll r
def uptoBulkEntries {H : Type} : List (Lit × DataW H) → Nat
  | [] => 0
  | x :: r => uptoBulkEntry x + uptoBulkEntries r
def uptoBulkEntry {H : Type} : Lit × DataW H → Nat
  | (.string bytes, d) => bytes.length + uptoBulk d + 1
  | (_, d) => uptoBulk d + 1
 end
def uptoSmall : (H : Type) → List (DataW H) → Bool := fun _ ds => decide (uptoBulkAll ds ≤ 1048576)
def OpenSpec.upto (s : _root_.Go.ChangeSpec) : _root_.Go.OpenSpec := { _root_.Go.OpenSpec.ofChange s with cond := some uptoSmall }

/-- 'davitlaw05.LockFair', WHERE WHAT IT READS IS OF BULK AT MOST 1048576: true; the input reads as it did. -/
def lockFairUptoRow : OpenClaim := { program := "ytcnnnioepabfiaa", sum := "f88afd5b1b7e198198a3a41ed0cf1cce1549dc081684be38e6862050c5d4ade0", func := "davit/davitlaw05.LockFair", spec := "lockFair", apart := false, narrowed := true }
def LockFairUptoSaid : Prop := lockFairUptoRow.holds Try.pinned (OpenSpec.upto lockFairSpec)

/-- 'davitlaw05.LockSpins', WHERE WHAT IT READS IS OF BULK AT MOST 1048576: true; the input reads as it did. -/
def lockSpinsUptoRow : OpenClaim := { program := "ytcnnnioepabfiaa", sum := "f88afd5b1b7e198198a3a41ed0cf1cce1549dc081684be38e6862050c5d4ade0", func := "davit/davitlaw05.LockSpins", spec := "lockSpins", apart := false, narrowed := true }
def LockSpinsUptoSaid : Prop := lockSpinsUptoRow.holds Try.pinned (OpenSpec.upto lockSpinsSpec)

/-- 'davitlaw05.LockPairs', WHERE WHAT IT READS IS OF BULK AT MOST 1048576: true; the input reads as it did. -/
def lockPairsUptoRow : OpenClaim := { program := "ytcnnnioepabfiaa", sum := "f88afd5b1b7e198198a3a41ed0cf1cce1549dc081684be38e6862050c5d4ade0", func := "davit/davitlaw05.LockPairs", spec := "lockPairs", apart := false, narrowed := true }
def LockPairsUptoSaid : Prop := lockPairsUptoRow.holds Try.pinned (OpenSpec.upto lockPairsSpec)

/-- 'davitlaw05.LockWhole', WHERE WHAT IT READS IS OF BULK AT MOST 1048576: true; the input reads as it did. -/
def lockWholeUptoRow : OpenClaim := { program := "ytcnnnioepabfiaa", sum := "f88afd5b1b7e198198a3a41ed0cf1cce1549dc081684be38e6862050c5d4ade0", func := "davit/davitlaw05.LockWhole", spec := "lockWhole", apart := false, narrowed := true }
def LockWholeUptoSaid : Prop := lockWholeUptoRow.holds Try.pinned (OpenSpec.upto lockWholeSpec)

/-- 'davitlaw05.LockNil', WHERE WHAT IT READS IS OF BULK AT MOST 1048576: true; the input reads as it did. -/
def lockNilUptoRow : OpenClaim := { program := "ytcnnnioepabfiaa", sum := "f88afd5b1b7e198198a3a41ed0cf1cce1549dc081684be38e6862050c5d4ade0", func := "davit/davitlaw05.LockNil", spec := "lockNil", apart := false, narrowed := true }
def LockNilUptoSaid : Prop := lockNilUptoRow.holds Try.pinned (OpenSpec.upto lockNilSpec)

end Rows
end Go.Proofs.Ytcnnnioepabfiaa
