/-
  No cell of these rows narrows 'for every input' (looked for: loops, veiled, ifaces, maps, wideKeys, modest, calm, conditions, laid).
  DERIVED. THE GIVEN ROWS OF THIS SEAT. 4 by the template 'for every input the law returns true; each argument reads behind the call as it read before'; 0 by the template 'total and deterministic' (their statements: YtejjmnhjpbokpaaTotals.lean).
  GIVEN WITH THE SEED: the statements are not yours to turn. If you find one false, say at which input.
  Laid BY PROGRAM, IN A SANDBOX (cutbox-rows.mjs): the forced cells as the released guide's own fill.sh prints them over the translation ca1debb623b73c3c… (all of the seat's roots in one cut). By AI agents, Wed Nov 11 2026. No macro, syntax, notation, axiom, sorry.
-/
import Derived.Test.YtejjmnhjpbokpaaChecked
import GoSem.Claim
import GoSem.ClaimJoined
import GoSem.ClaimMapViews
import Derived.JoinedTies
import Derived.KernelRfl
namespace Go.Proofs.Ytejjmnhjpbokpaa
/- THE CELL 'sum', in the pinned program and in every row, IS THE sha256 OF THE DUMP (.gsa) THAT YtejjmnhjpbokpaaProg.lean LOADS. Nothing in Lean hashes anything: it is a label: what it is worth is what the hold of that sum in a sandbox is worth. -/
noncomputable def Try.pinned : Pinned := { name := "ytejjmnhjpbokpaa", sum := "ca1debb623b73c3ca9d5bd4698958de9f7fca59b04d2be9f5acc1b4ccd4d5847", checked := Try.checked }
namespace Rows
def none {H : Type} : Left H := { results := [], args := [] }

/-- 'davitlaw03.FifoOrder': WHATEVER THE INPUT: true; the input reads as it did. -/
def fifoOrderSpec : ChangeSpec := { name := "fifoOrder", fn := fun _ => fun
  | [d] => { results := [.lit (.bool true)], args := [d] }
  | _ => none }
def fifoOrderRow : OpenClaim := { program := "ytejjmnhjpbokpaa", sum := "ca1debb623b73c3ca9d5bd4698958de9f7fca59b04d2be9f5acc1b4ccd4d5847", func := "davit/davitlaw03.FifoOrder", spec := "fifoOrder", apart := false }
def FifoOrderSaid : Prop := fifoOrderRow.holds Try.pinned (OpenSpec.ofChange fifoOrderSpec)

/-- ITS FALSE NEIGHBOUR: 'it returns false'. Refute it at one input. -/
def fifoOrderWrong : ChangeSpec := { name := "fifoOrder", fn := fun _ => fun
  | [d] => { results := [.lit (.bool false)], args := [d] }
  | _ => none }
def FifoOrderWrongFalsely : Prop := fifoOrderRow.holds Try.pinned (OpenSpec.ofChange fifoOrderWrong)

/-- 'davitlaw03.FifoRound': WHATEVER THE INPUT: true; the input reads as it did. -/
def fifoRoundSpec : ChangeSpec := { name := "fifoRound", fn := fun _ => fun
  | [d] => { results := [.lit (.bool true)], args := [d] }
  | _ => none }
def fifoRoundRow : OpenClaim := { program := "ytejjmnhjpbokpaa", sum := "ca1debb623b73c3ca9d5bd4698958de9f7fca59b04d2be9f5acc1b4ccd4d5847", func := "davit/davitlaw03.FifoRound", spec := "fifoRound", apart := false }
def FifoRoundSaid : Prop := fifoRoundRow.holds Try.pinned (OpenSpec.ofChange fifoRoundSpec)

/-- ITS FALSE NEIGHBOUR: 'it returns false'. Refute it at one input. -/
def fifoRoundWrong : ChangeSpec := { name := "fifoRound", fn := fun _ => fun
  | [d] => { results := [.lit (.bool false)], args := [d] }
  | _ => none }
def FifoRoundWrongFalsely : Prop := fifoRoundRow.holds Try.pinned (OpenSpec.ofChange fifoRoundWrong)

/-- 'davitlaw03.FifoPlays': WHATEVER THE INPUT: true; the input reads as it did. -/
def fifoPlaysSpec : ChangeSpec := { name := "fifoPlays", fn := fun _ => fun
  | [d1, d2, d3] => { results := [.lit (.bool true)], args := [d1, d2, d3] }
  | _ => none }
def fifoPlaysRow : OpenClaim := { program := "ytejjmnhjpbokpaa", sum := "ca1debb623b73c3ca9d5bd4698958de9f7fca59b04d2be9f5acc1b4ccd4d5847", func := "davit/davitlaw03.FifoPlays", spec := "fifoPlays", apart := false }
def FifoPlaysSaid : Prop := fifoPlaysRow.holds Try.pinned (OpenSpec.ofChange fifoPlaysSpec)

/-- ITS FALSE NEIGHBOUR: 'it returns false'. Refute it at one input. -/
def fifoPlaysWrong : ChangeSpec := { name := "fifoPlays", fn := fun _ => fun
  | [d1, d2, d3] => { results := [.lit (.bool false)], args := [d1, d2, d3] }
  | _ => none }
def FifoPlaysWrongFalsely : Prop := fifoPlaysRow.holds Try.pinned (OpenSpec.ofChange fifoPlaysWrong)

/-- 'davitlaw03.FifoNil': WHATEVER THE INPUT: true; the input reads as it did. -/
def fifoNilSpec : ChangeSpec := { name := "fifoNil", fn := fun _ => fun
  | [d] => { results := [.lit (.bool true)], args := [d] }
  | _ => none }
def fifoNilRow : OpenClaim := { program := "ytejjmnhjpbokpaa", sum := "ca1debb623b73c3ca9d5bd4698958de9f7fca59b04d2be9f5acc1b4ccd4d5847", func := "davit/davitlaw03.FifoNil", spec := "fifoNil", apart := false }
def FifoNilSaid : Prop := fifoNilRow.holds Try.pinned (OpenSpec.ofChange fifoNilSpec)

/-- ITS FALSE NEIGHBOUR: 'it returns false'. Refute it at one input. -/
def fifoNilWrong : ChangeSpec := { name := "fifoNil", fn := fun _ => fun
  | [d] => { results := [.lit (.bool false)], args := [d] }
  | _ => none }
def FifoNilWrongFalsely : Prop := fifoNilRow.holds Try.pinned (OpenSpec.ofChange fifoNilWrong)

/- THE SECOND FORM. 'bulk': how many values and letters a reading holds, each counted each time it is reached (what is shared counts as often as it is met; a slice's spare places count too). A statement '..UptoSaid' is the law's where the arguments, and the package variables that the reading takes, are together of bulk at most 1048576: NARROWER than '..Said'. Prove '..Said' where nothing that the law and all that it calls make is longer than what came in: it says more and counts as full. Else prove '..UptoSaid'. A law counts once. -/
mutual
def uptoBulk {H : Type} : DataW H → Nat
  | .lit (.string bytes) => bytes.length + 1
  | .lit _ => 1
  | .nil => 1
  | .ptr d => uptoBulk d + 1
  | .slice elems spare => uptoBulkAll elems + uptoBulkAll spare + 1
  | .agg parts => uptoBulkAll parts + 1
  | .iface _ d => uptoBulk d + 1
  | .map entries => uptoBulkEntries entries + 1
  | .held _ => 1
def uptoBulkAll {H : Type} : List (DataW H) → Nat
  | [] => 0
  | d :: r => uptoBulk d + uptoBulkAll r
def uptoBulkEntries {H : Type} : List (Lit × DataW H) → Nat
  | [] => 0
  | x :: r => uptoBulkEntry x + uptoBulkEntries r
def uptoBulkEntry {H : Type} : Lit × DataW H → Nat
  | (.string bytes, d) => bytes.length + uptoBulk d + 1
  | (_, d) => uptoBulk d + 1
 end
def uptoSmall : (H : Type) → List (DataW H) → Bool := fun _ ds => decide (uptoBulkAll ds ≤ 1048576)
def OpenSpec.upto (s : _root_.Go.ChangeSpec) : _root_.Go.OpenSpec := { _root_.Go.OpenSpec.ofChange s with cond := some uptoSmall }

/-- 'davitlaw03.FifoOrder', WHERE WHAT IT READS IS OF BULK AT MOST 1048576: true; the input reads as it did. -/
def fifoOrderUptoRow : OpenClaim := { program := "ytejjmnhjpbokpaa", sum := "ca1debb623b73c3ca9d5bd4698958de9f7fca59b04d2be9f5acc1b4ccd4d5847", func := "davit/davitlaw03.FifoOrder", spec := "fifoOrder", apart := false, narrowed := true }
def FifoOrderUptoSaid : Prop := fifoOrderUptoRow.holds Try.pinned (OpenSpec.upto fifoOrderSpec)

/-- 'davitlaw03.FifoRound', WHERE WHAT IT READS IS OF BULK AT MOST 1048576: true; the input reads as it did. -/
def fifoRoundUptoRow : OpenClaim := { program := "ytejjmnhjpbokpaa", sum := "ca1debb623b73c3ca9d5bd4698958de9f7fca59b04d2be9f5acc1b4ccd4d5847", func := "davit/davitlaw03.FifoRound", spec := "fifoRound", apart := false, narrowed := true }
def FifoRoundUptoSaid : Prop := fifoRoundUptoRow.holds Try.pinned (OpenSpec.upto fifoRoundSpec)

/-- 'davitlaw03.FifoPlays', WHERE WHAT IT READS IS OF BULK AT MOST 1048576: true; the input reads as it did. -/
def fifoPlaysUptoRow : OpenClaim := { program := "ytejjmnhjpbokpaa", sum := "ca1debb623b73c3ca9d5bd4698958de9f7fca59b04d2be9f5acc1b4ccd4d5847", func := "davit/davitlaw03.FifoPlays", spec := "fifoPlays", apart := false, narrowed := true }
def FifoPlaysUptoSaid : Prop := fifoPlaysUptoRow.holds Try.pinned (OpenSpec.upto fifoPlaysSpec)

/-- 'davitlaw03.FifoNil', WHERE WHAT IT READS IS OF BULK AT MOST 1048576: true; the input reads as it did. -/
def fifoNilUptoRow : OpenClaim := { program := "ytejjmnhjpbokpaa", sum := "ca1debb623b73c3ca9d5bd4698958de9f7fca59b04d2be9f5acc1b4ccd4d5847", func := "davit/davitlaw03.FifoNil", spec := "fifoNil", apart := false, narrowed := true }
def FifoNilUptoSaid : Prop := fifoNilUptoRow.holds Try.pinned (OpenSpec.upto fifoNilSpec)

end Rows
end Go.Proofs.Ytejjmnhjpbokpaa
