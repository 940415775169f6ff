/-
  No cell of these rows narrows 'for every input' (looked for: loops, veiled, ifaces, maps, wideKeys, modest, calm, conditions, laid).
  DERIVED. THE GIVEN ROWS OF THIS SEAT. 4 by the template 'for every input the law returns true; each argument reads behind the call as it read before'; 0 by the template 'total and deterministic' (their statements: YtejkpmndkpmjgaaTotals.lean).
  GIVEN WITH THE SEED: the statements are not yours to turn. If you find one false, say at which input.
  Laid BY PROGRAM, IN A SANDBOX (cutbox-rows.mjs): the forced cells as the released guide's own fill.sh prints them over the translation b3ba341da9597109… (all of the seat's roots in one cut). By AI agents, Wed Nov 11 2026. No macro, syntax, notation, axiom, sorry.
-/
import Derived.Test.YtejkpmndkpmjgaaChecked
import GoSem.Claim
import GoSem.ClaimJoined
import GoSem.ClaimMapViews
import Derived.JoinedTies
import Derived.KernelRfl
namespace Go.Proofs.Ytejkpmndkpmjgaa
/- THE CELL 'sum', in the pinned program and in every row, IS THE sha256 OF THE DUMP (.gsa) THAT YtejkpmndkpmjgaaProg.lean LOADS. Nothing in Lean hashes anything: it is a label: what it is worth is what the hold of that sum in a sandbox is worth. -/
noncomputable def Try.pinned : Pinned := { name := "ytejkpmndkpmjgaa", sum := "b3ba341da95971092bf5c7398f14967391f8d04548fd377833830ecb36728e8d", checked := Try.checked }
namespace Rows
def none {H : Type} : Left H := { results := [], args := [] }

/-- 'davitlaw09.PrioRound': WHATEVER THE INPUT: true; the input reads as it did. -/
def prioRoundSpec : ChangeSpec := { name := "prioRound", fn := fun _ => fun
  | [d] => { results := [.lit (.bool true)], args := [d] }
  | _ => none }
def prioRoundRow : OpenClaim := { program := "ytejkpmndkpmjgaa", sum := "b3ba341da95971092bf5c7398f14967391f8d04548fd377833830ecb36728e8d", func := "davit/davitlaw09.PrioRound", spec := "prioRound", unfollowed := true, recurses := true, apart := false }
def PrioRoundSaid : Prop := prioRoundRow.holds Try.pinned (OpenSpec.ofChange prioRoundSpec)

/-- ITS FALSE NEIGHBOUR: 'it returns false'. Refute it at one input. -/
def prioRoundWrong : ChangeSpec := { name := "prioRound", fn := fun _ => fun
  | [d] => { results := [.lit (.bool false)], args := [d] }
  | _ => none }
def PrioRoundWrongFalsely : Prop := prioRoundRow.holds Try.pinned (OpenSpec.ofChange prioRoundWrong)

/-- 'davitlaw09.PrioPlays': WHATEVER THE INPUT: true; the input reads as it did. -/
def prioPlaysSpec : ChangeSpec := { name := "prioPlays", fn := fun _ => fun
  | [d1, d2] => { results := [.lit (.bool true)], args := [d1, d2] }
  | _ => none }
def prioPlaysRow : OpenClaim := { program := "ytejkpmndkpmjgaa", sum := "b3ba341da95971092bf5c7398f14967391f8d04548fd377833830ecb36728e8d", func := "davit/davitlaw09.PrioPlays", spec := "prioPlays", unfollowed := true, recurses := true, apart := false }
def PrioPlaysSaid : Prop := prioPlaysRow.holds Try.pinned (OpenSpec.ofChange prioPlaysSpec)

/-- ITS FALSE NEIGHBOUR: 'it returns false'. Refute it at one input. -/
def prioPlaysWrong : ChangeSpec := { name := "prioPlays", fn := fun _ => fun
  | [d1, d2] => { results := [.lit (.bool false)], args := [d1, d2] }
  | _ => none }
def PrioPlaysWrongFalsely : Prop := prioPlaysRow.holds Try.pinned (OpenSpec.ofChange prioPlaysWrong)

/-- 'davitlaw09.PrioFirst': WHATEVER THE INPUT: true; the input reads as it did. -/
def prioFirstSpec : ChangeSpec := { name := "prioFirst", fn := fun _ => fun
  | [d] => { results := [.lit (.bool true)], args := [d] }
  | _ => none }
def prioFirstRow : OpenClaim := { program := "ytejkpmndkpmjgaa", sum := "b3ba341da95971092bf5c7398f14967391f8d04548fd377833830ecb36728e8d", func := "davit/davitlaw09.PrioFirst", spec := "prioFirst", unfollowed := true, recurses := true, apart := false }
def PrioFirstSaid : Prop := prioFirstRow.holds Try.pinned (OpenSpec.ofChange prioFirstSpec)

/-- ITS FALSE NEIGHBOUR: 'it returns false'. Refute it at one input. -/
def prioFirstWrong : ChangeSpec := { name := "prioFirst", fn := fun _ => fun
  | [d] => { results := [.lit (.bool false)], args := [d] }
  | _ => none }
def PrioFirstWrongFalsely : Prop := prioFirstRow.holds Try.pinned (OpenSpec.ofChange prioFirstWrong)

/-- 'davitlaw09.PrioNil': WHATEVER THE INPUT: true; the input reads as it did. -/
def prioNilSpec : ChangeSpec := { name := "prioNil", fn := fun _ => fun
  | [d1, d2] => { results := [.lit (.bool true)], args := [d1, d2] }
  | _ => none }
def prioNilRow : OpenClaim := { program := "ytejkpmndkpmjgaa", sum := "b3ba341da95971092bf5c7398f14967391f8d04548fd377833830ecb36728e8d", func := "davit/davitlaw09.PrioNil", spec := "prioNil", unfollowed := true, recurses := true, apart := false }
def PrioNilSaid : Prop := prioNilRow.holds Try.pinned (OpenSpec.ofChange prioNilSpec)

/-- ITS FALSE NEIGHBOUR: 'it returns false'. Refute it at one input. -/
def prioNilWrong : ChangeSpec := { name := "prioNil", fn := fun _ => fun
  | [d1, d2] => { results := [.lit (.bool false)], args := [d1, d2] }
  | _ => none }
def PrioNilWrongFalsely : Prop := prioNilRow.holds Try.pinned (OpenSpec.ofChange prioNilWrong)

/- THE SECOND FORM. 'bulk': how many values and letters a reading holds, each counted each time it is reached (what is shared counts as often as it is met; a slice's spare places count too). A statement '..UptoSaid' is the law's where the arguments, and the package variables that the reading takes, are together of bulk at most 1048576: NARROWER than '..Said'. Prove '..Said' where nothing that the law and all that it calls make is longer than what came in: it says more and counts as full. Else prove '..UptoSaid'. A law counts once. -/
mutual
def uptoBulk {H : Type} : DataW H → Nat
  | .lit (.string bytes) => bytes.length + 1
  | .lit _ => 1
  | .nil => 1
  | .ptr d => uptoBulk d + 1
  | .slice elems spare => uptoBulkAll elems + uptoBulkAll spare + 1
  | .agg parts => uptoBulkAll parts + 1
  | .iface _ d => uptoBulk d + 1
  | .map entries => uptoBulkEntries entries + 1
  | .held _ => 1
def uptoBulkAll {H : Type} : List (DataW H) → Nat
  | [] => 0
  | d :: r => uptoBulk d + uptoBulkAll r
def uptoBulkEntries {H : Type} : List (Lit × DataW H) → Nat
  | [] => 0
  | x :: r => uptoBulkEntry x + uptoBulkEntries r
def uptoBulkEntry {H : Type} : Lit × DataW H → Nat
  | (.string bytes, d) => bytes.length + uptoBulk d + 1
  | (_, d) => uptoBulk d + 1
 end
def uptoSmall : (H : Type) → List (DataW H) → Bool := fun _ ds => decide (uptoBulkAll ds ≤ 1048576)
def OpenSpec.upto (s : _root_.Go.ChangeSpec) : _root_.Go.OpenSpec := { _root_.Go.OpenSpec.ofChange s with cond := some uptoSmall }

/-- 'davitlaw09.PrioRound', WHERE WHAT IT READS IS OF BULK AT MOST 1048576: true; the input reads as it did. -/
def prioRoundUptoRow : OpenClaim := { program := "ytejkpmndkpmjgaa", sum := "b3ba341da95971092bf5c7398f14967391f8d04548fd377833830ecb36728e8d", func := "davit/davitlaw09.PrioRound", spec := "prioRound", unfollowed := true, recurses := true, apart := false, narrowed := true }
def PrioRoundUptoSaid : Prop := prioRoundUptoRow.holds Try.pinned (OpenSpec.upto prioRoundSpec)

/-- 'davitlaw09.PrioPlays', WHERE WHAT IT READS IS OF BULK AT MOST 1048576: true; the input reads as it did. -/
def prioPlaysUptoRow : OpenClaim := { program := "ytejkpmndkpmjgaa", sum := "b3ba341da95971092bf5c7398f14967391f8d04548fd377833830ecb36728e8d", func := "davit/davitlaw09.PrioPlays", spec := "prioPlays", unfollowed := true, recurses := true, apart := false, narrowed := true }
def PrioPlaysUptoSaid : Prop := prioPlaysUptoRow.holds Try.pinned (OpenSpec.upto prioPlaysSpec)

/-- 'davitlaw09.PrioFirst', WHERE WHAT IT READS IS OF BULK AT MOST 1048576: true; the input reads as it did. -/
def prioFirstUptoRow : OpenClaim := { program := "ytejkpmndkpmjgaa", sum := "b3ba341da95971092bf5c7398f14967391f8d04548fd377833830ecb36728e8d", func := "davit/davitlaw09.PrioFirst", spec := "prioFirst", unfollowed := true, recurses := true, apart := false, narrowed := true }
def PrioFirstUptoSaid : Prop := prioFirstUptoRow.holds Try.pinned (OpenSpec.upto prioFirstSpec)

/-- 'davitlaw09.PrioNil', WHERE WHAT IT READS IS OF BULK AT MOST 1048576: true; the input reads as it did. -/
def prioNilUptoRow : OpenClaim := { program := "ytejkpmndkpmjgaa", sum := "b3ba341da95971092bf5c7398f14967391f8d04548fd377833830ecb36728e8d", func := "davit/davitlaw09.PrioNil", spec := "prioNil", unfollowed := true, recurses := true, apart := false, narrowed := true }
def PrioNilUptoSaid : Prop := prioNilUptoRow.holds Try.pinned (OpenSpec.upto prioNilSpec)

end Rows
end Go.Proofs.Ytejkpmndkpmjgaa
