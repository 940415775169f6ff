/-
  No cell of these rows narrows 'for every input' (looked for: loops, veiled, ifaces, maps, wideKeys, modest, calm, conditions, laid).
  DERIVED. THE GIVEN ROWS OF THIS SEAT. 3 by the template 'for every input the law returns true; each argument reads behind the call as it read before'; 0 by the template 'total and deterministic' (their statements: YtcjhkmgemdlalaaTotals.lean).
  GIVEN WITH THE SEED: the statements are not yours to turn. If you find one false, say at which input.
  Laid BY PROGRAM, IN A SANDBOX (cutbox-rows.mjs): the forced cells as the released guide's own fill.sh prints them over the translation 42b290ea506f15d1… (all of the seat's roots in one cut). By AI agents, Wed Nov 11 2026. No macro, syntax, notation, axiom, sorry.
-/
import Derived.Test.YtcjhkmgemdlalaaChecked
import GoSem.Claim
import GoSem.ClaimJoined
import GoSem.ClaimMapViews
import Derived.JoinedTies
import Derived.KernelRfl
namespace Go.Proofs.Ytcjhkmgemdlalaa
/- THE CELL 'sum', in the pinned program and in every row, IS THE sha256 OF THE DUMP (.gsa) THAT YtcjhkmgemdlalaaProg.lean LOADS. Nothing in Lean hashes anything: it is a label: what it is worth is what the hold of that sum in a sandbox is worth. -/
noncomputable def Try.pinned : Pinned := { name := "ytcjhkmgemdlalaa", sum := "42b290ea506f15d14221788b785c8c3ff61917baa8331aab68753c4619370aac", checked := Try.checked }
namespace Rows
def none {H : Type} : Left H := { results := [], args := [] }

/-- 'davitlaw15.IrqOnce': WHATEVER THE INPUT: true; the input reads as it did. -/
def irqOnceSpec : ChangeSpec := { name := "irqOnce", fn := fun _ => fun
  | [d1, d2, d3] => { results := [.lit (.bool true)], args := [d1, d2, d3] }
  | _ => none }
def irqOnceRow : OpenClaim := { program := "ytcjhkmgemdlalaa", sum := "42b290ea506f15d14221788b785c8c3ff61917baa8331aab68753c4619370aac", func := "davit/davitlaw15.IrqOnce", spec := "irqOnce", apart := false }
def IrqOnceSaid : Prop := irqOnceRow.holds Try.pinned (OpenSpec.ofChange irqOnceSpec)

/-- ITS FALSE NEIGHBOUR: 'it returns false'. Refute it at one input. -/
def irqOnceWrong : ChangeSpec := { name := "irqOnce", fn := fun _ => fun
  | [d1, d2, d3] => { results := [.lit (.bool false)], args := [d1, d2, d3] }
  | _ => none }
def IrqOnceWrongFalsely : Prop := irqOnceRow.holds Try.pinned (OpenSpec.ofChange irqOnceWrong)

/-- 'davitlaw15.IrqPlays': WHATEVER THE INPUT: true; the input reads as it did. -/
def irqPlaysSpec : ChangeSpec := { name := "irqPlays", fn := fun _ => fun
  | [d1, d2] => { results := [.lit (.bool true)], args := [d1, d2] }
  | _ => none }
def irqPlaysRow : OpenClaim := { program := "ytcjhkmgemdlalaa", sum := "42b290ea506f15d14221788b785c8c3ff61917baa8331aab68753c4619370aac", func := "davit/davitlaw15.IrqPlays", spec := "irqPlays", apart := false }
def IrqPlaysSaid : Prop := irqPlaysRow.holds Try.pinned (OpenSpec.ofChange irqPlaysSpec)

/-- ITS FALSE NEIGHBOUR: 'it returns false'. Refute it at one input. -/
def irqPlaysWrong : ChangeSpec := { name := "irqPlays", fn := fun _ => fun
  | [d1, d2] => { results := [.lit (.bool false)], args := [d1, d2] }
  | _ => none }
def IrqPlaysWrongFalsely : Prop := irqPlaysRow.holds Try.pinned (OpenSpec.ofChange irqPlaysWrong)

/-- 'davitlaw15.IrqNil': WHATEVER THE INPUT: true; the input reads as it did. -/
def irqNilSpec : ChangeSpec := { name := "irqNil", fn := fun _ => fun
  | [d1, d2] => { results := [.lit (.bool true)], args := [d1, d2] }
  | _ => none }
def irqNilRow : OpenClaim := { program := "ytcjhkmgemdlalaa", sum := "42b290ea506f15d14221788b785c8c3ff61917baa8331aab68753c4619370aac", func := "davit/davitlaw15.IrqNil", spec := "irqNil", apart := false }
def IrqNilSaid : Prop := irqNilRow.holds Try.pinned (OpenSpec.ofChange irqNilSpec)

/-- ITS FALSE NEIGHBOUR: 'it returns false'. Refute it at one input. -/
def irqNilWrong : ChangeSpec := { name := "irqNil", fn := fun _ => fun
  | [d1, d2] => { results := [.lit (.bool false)], args := [d1, d2] }
  | _ => none }
def IrqNilWrongFalsely : Prop := irqNilRow.holds Try.pinned (OpenSpec.ofChange irqNilWrong)

/- THE SECOND FORM. 'bulk': how many values and letters a reading holds, each counted each time it is reached (what is shared counts as often as it is met; a slice's spare places count too). A statement '..UptoSaid' is the law's where the arguments, and the package variables that the reading takes, are together of bulk at most 1048576: NARROWER than '..Said'. Prove '..Said' where nothing that the law and all that it calls make is longer than what came in: it says more and counts as full. Else prove '..UptoSaid'. A law counts once. -/
mutual
def uptoBulk {H : Type} : DataW H → Nat
  | .lit (.string bytes) => bytes.length + 1
  | .lit _ => 1
  | .nil => 1
  | .ptr d => uptoBulk d + 1
  | .slice elems spare => uptoBulkAll elems + uptoBulkAll spare + 1
  | .agg parts => uptoBulkAll parts + 1
  | .iface _ d => uptoBulk d + 1
  | .map entries => uptoBulkEntries entries + 1
  | .held _ => 1
def uptoBulkAll {H : Type} : List (DataW H) → Nat
  | [] => 0
  | d :: r => uptoBulk d + uptoBulkAll r
def uptoBulkEntries {H : Type} : List (Lit × DataW H) → Nat
  | [] => 0
  | x :: r => uptoBulkEntry x + uptoBulkEntries r
def uptoBulkEntry {H : Type} : Lit × DataW H → Nat
  | (.string bytes, d) => bytes.length + uptoBulk d + 1
  | (_, d) => uptoBulk d + 1
 end
def uptoSmall : (H : Type) → List (DataW H) → Bool := fun _ ds => decide (uptoBulkAll ds ≤ 1048576)
def OpenSpec.upto (s : _root_.Go.ChangeSpec) : _root_.Go.OpenSpec := { _root_.Go.OpenSpec.ofChange s with cond := some uptoSmall }

/-- 'davitlaw15.IrqOnce', WHERE WHAT IT READS IS OF BULK AT MOST 1048576: true; the input reads as it did. -/
def irqOnceUptoRow : OpenClaim := { program := "ytcjhkmgemdlalaa", sum := "42b290ea506f15d14221788b785c8c3ff61917baa8331aab68753c4619370aac", func := "davit/davitlaw15.IrqOnce", spec := "irqOnce", apart := false, narrowed := true }
def IrqOnceUptoSaid : Prop := irqOnceUptoRow.holds Try.pinned (OpenSpec.upto irqOnceSpec)

/-- 'davitlaw15.IrqPlays', WHERE WHAT IT READS IS OF BULK AT MOST 1048576: true; the input reads as it did. -/
def irqPlaysUptoRow : OpenClaim := { program := "ytcjhkmgemdlalaa", sum := "42b290ea506f15d14221788b785c8c3ff61917baa8331aab68753c4619370aac", func := "davit/davitlaw15.IrqPlays", spec := "irqPlays", apart := false, narrowed := true }
def IrqPlaysUptoSaid : Prop := irqPlaysUptoRow.holds Try.pinned (OpenSpec.upto irqPlaysSpec)

/-- 'davitlaw15.IrqNil', WHERE WHAT IT READS IS OF BULK AT MOST 1048576: true; the input reads as it did. -/
def irqNilUptoRow : OpenClaim := { program := "ytcjhkmgemdlalaa", sum := "42b290ea506f15d14221788b785c8c3ff61917baa8331aab68753c4619370aac", func := "davit/davitlaw15.IrqNil", spec := "irqNil", apart := false, narrowed := true }
def IrqNilUptoSaid : Prop := irqNilUptoRow.holds Try.pinned (OpenSpec.upto irqNilSpec)

end Rows
end Go.Proofs.Ytcjhkmgemdlalaa
