/-
  No cell of these rows narrows 'for every input' (looked for: loops, veiled, ifaces, maps, wideKeys, modest, calm, conditions, laid).
  DERIVED. THE GIVEN ROWS OF THIS SEAT. 3 by the template 'for every input the law returns true; each argument reads behind the call as it read before'; 0 by the template 'total and deterministic' (their statements: YtcpljcjclmlblaaTotals.lean).
  GIVEN WITH THE SEED: the statements are not yours to turn. If you find one false, say at which input.
  Laid BY PROGRAM, IN A SANDBOX (cutbox-rows.mjs): the forced cells as the released guide's own fill.sh prints them over the translation 38664129bb61b90c… (all of the seat's roots in one cut). By AI agents, Wed Nov 11 2026. No macro, syntax, notation, axiom, sorry.
-/
import Derived.Test.YtcpljcjclmlblaaChecked
import GoSem.Claim
import GoSem.ClaimJoined
import GoSem.ClaimMapViews
import Derived.JoinedTies
import Derived.KernelRfl
namespace Go.Proofs.Ytcpljcjclmlblaa
/- THE CELL 'sum', in the pinned program and in every row, IS THE sha256 OF THE DUMP (.gsa) THAT YtcpljcjclmlblaaProg.lean LOADS. Nothing in Lean hashes anything: it is a label: what it is worth is what the hold of that sum in a sandbox is worth. -/
noncomputable def Try.pinned : Pinned := { name := "ytcpljcjclmlblaa", sum := "38664129bb61b90c9d98363d715fb8420bef0fe41f4493b26110f1e73e079482", checked := Try.checked }
namespace Rows
def none {H : Type} : Left H := { results := [], args := [] }

/-- 'davitlaw20.StopAll': WHATEVER THE INPUT: true; the input reads as it did. -/
def stopAllSpec : ChangeSpec := { name := "stopAll", fn := fun _ => fun
  | [d1, d2] => { results := [.lit (.bool true)], args := [d1, d2] }
  | _ => none }
def stopAllRow : OpenClaim := { program := "ytcpljcjclmlblaa", sum := "38664129bb61b90c9d98363d715fb8420bef0fe41f4493b26110f1e73e079482", func := "davit/davitlaw20.StopAll", spec := "stopAll", unfollowed := true, recurses := true, apart := false }
def StopAllSaid : Prop := stopAllRow.holds Try.pinned (OpenSpec.ofChange stopAllSpec)

/-- ITS FALSE NEIGHBOUR: 'it returns false'. Refute it at one input. -/
def stopAllWrong : ChangeSpec := { name := "stopAll", fn := fun _ => fun
  | [d1, d2] => { results := [.lit (.bool false)], args := [d1, d2] }
  | _ => none }
def StopAllWrongFalsely : Prop := stopAllRow.holds Try.pinned (OpenSpec.ofChange stopAllWrong)

/-- 'davitlaw20.StopPlays': WHATEVER THE INPUT: true; the input reads as it did. -/
def stopPlaysSpec : ChangeSpec := { name := "stopPlays", fn := fun _ => fun
  | [d] => { results := [.lit (.bool true)], args := [d] }
  | _ => none }
def stopPlaysRow : OpenClaim := { program := "ytcpljcjclmlblaa", sum := "38664129bb61b90c9d98363d715fb8420bef0fe41f4493b26110f1e73e079482", func := "davit/davitlaw20.StopPlays", spec := "stopPlays", unfollowed := true, recurses := true, apart := false }
def StopPlaysSaid : Prop := stopPlaysRow.holds Try.pinned (OpenSpec.ofChange stopPlaysSpec)

/-- ITS FALSE NEIGHBOUR: 'it returns false'. Refute it at one input. -/
def stopPlaysWrong : ChangeSpec := { name := "stopPlays", fn := fun _ => fun
  | [d] => { results := [.lit (.bool false)], args := [d] }
  | _ => none }
def StopPlaysWrongFalsely : Prop := stopPlaysRow.holds Try.pinned (OpenSpec.ofChange stopPlaysWrong)

/-- 'davitlaw20.StopNil': WHATEVER THE INPUT: true; the input reads as it did. -/
def stopNilSpec : ChangeSpec := { name := "stopNil", fn := fun _ => fun
  | [d1, d2] => { results := [.lit (.bool true)], args := [d1, d2] }
  | _ => none }
def stopNilRow : OpenClaim := { program := "ytcpljcjclmlblaa", sum := "38664129bb61b90c9d98363d715fb8420bef0fe41f4493b26110f1e73e079482", func := "davit/davitlaw20.StopNil", spec := "stopNil", unfollowed := true, recurses := true, apart := false }
def StopNilSaid : Prop := stopNilRow.holds Try.pinned (OpenSpec.ofChange stopNilSpec)

/-- ITS FALSE NEIGHBOUR: 'it returns false'. Refute it at one input. -/
def stopNilWrong : ChangeSpec := { name := "stopNil", fn := fun _ => fun
  | [d1, d2] => { results := [.lit (.bool false)], args := [d1, d2] }
  | _ => none }
def StopNilWrongFalsely : Prop := stopNilRow.holds Try.pinned (OpenSpec.ofChange stopNilWrong)

/- THE SECOND FORM. 'bulk': how many values and letters a reading holds, each counted each time it is reached (what is shared counts as often as it is met; a slice's spare places count too). A statement '..UptoSaid' is the law's where the arguments, and the package variables that the reading takes, are together of bulk at most 1048576: NARROWER than '..Said'. Prove '..Said' where nothing that the law and all that it calls make is longer than what came in: it says more and counts as full. Else prove '..UptoSaid'. A law counts once. -/
mutual
def uptoBulk {H : Type} : DataW H → Nat
  | .lit (.string bytes) => bytes.length + 1
  | .lit _ => 1
  | .nil => 1
  | .ptr d => uptoBulk d + 1
  | .slice elems spare => uptoBulkAll elems + uptoBulkAll spare + 1
  | .agg parts => uptoBulkAll parts + 1
  | .iface _ d => uptoBulk d + 1
  | .map entries => uptoBulkEntries entries + 1
  | .held _ => 1
def uptoBulkAll {H : Type} : List (DataW H) → Nat
  | [] => 0
  | d :: r => uptoBulk d + uptoBulkAll r
def uptoBulkEntries {H : Type} : List (Lit × DataW H) → Nat
  | [] => 0
  | x :: r => uptoBulkEntry x + uptoBulkEntries r
def uptoBulkEntry {H : Type} : Lit × DataW H → Nat
  | (.string bytes, d) => bytes.length + uptoBulk d + 1
  | (_, d) => uptoBulk d + 1
 end
def uptoSmall : (H : Type) → List (DataW H) → Bool := fun _ ds => decide (uptoBulkAll ds ≤ 1048576)
def OpenSpec.upto (s : _root_.Go.ChangeSpec) : _root_.Go.OpenSpec := { _root_.Go.OpenSpec.ofChange s with cond := some uptoSmall }

/-- 'davitlaw20.StopAll', WHERE WHAT IT READS IS OF BULK AT MOST 1048576: true; the input reads as it did. -/
def stopAllUptoRow : OpenClaim := { program := "ytcpljcjclmlblaa", sum := "38664129bb61b90c9d98363d715fb8420bef0fe41f4493b26110f1e73e079482", func := "davit/davitlaw20.StopAll", spec := "stopAll", unfollowed := true, recurses := true, apart := false, narrowed := true }
def StopAllUptoSaid : Prop := stopAllUptoRow.holds Try.pinned (OpenSpec.upto stopAllSpec)

/-- 'davitlaw20.StopPlays', WHERE WHAT IT READS IS OF BULK AT MOST 1048576: true; the input reads as it did. -/
def stopPlaysUptoRow : OpenClaim := { program := "ytcpljcjclmlblaa", sum := "38664129bb61b90c9d98363d715fb8420bef0fe41f4493b26110f1e73e079482", func := "davit/davitlaw20.StopPlays", spec := "stopPlays", unfollowed := true, recurses := true, apart := false, narrowed := true }
def StopPlaysUptoSaid : Prop := stopPlaysUptoRow.holds Try.pinned (OpenSpec.upto stopPlaysSpec)

/-- 'davitlaw20.StopNil', WHERE WHAT IT READS IS OF BULK AT MOST 1048576: true; the input reads as it did. -/
def stopNilUptoRow : OpenClaim := { program := "ytcpljcjclmlblaa", sum := "38664129bb61b90c9d98363d715fb8420bef0fe41f4493b26110f1e73e079482", func := "davit/davitlaw20.StopNil", spec := "stopNil", unfollowed := true, recurses := true, apart := false, narrowed := true }
def StopNilUptoSaid : Prop := stopNilUptoRow.holds Try.pinned (OpenSpec.upto stopNilSpec)

end Rows
end Go.Proofs.Ytcpljcjclmlblaa
