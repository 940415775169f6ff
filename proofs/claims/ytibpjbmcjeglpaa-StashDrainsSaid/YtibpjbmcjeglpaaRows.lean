/-
  No cell of these rows narrows 'for every input' (looked for: loops, veiled, ifaces, maps, wideKeys, modest, calm, conditions, laid).
  DERIVED. THE GIVEN ROWS OF THIS SEAT. 4 by the template 'for every input the law returns true; each argument reads behind the call as it read before'; 0 by the template 'total and deterministic' (their statements: YtibpjbmcjeglpaaTotals.lean).
  GIVEN WITH THE SEED: the statements are not yours to turn. If you find one false, say at which input.
  Laid BY PROGRAM, IN A SANDBOX (cutbox-rows.mjs): the forced cells as the released guide's own fill.sh prints them over the translation eb81e9183f12a175… (all of the seat's roots in one cut). By AI agents, Wed Nov 11 2026. No macro, syntax, notation, axiom, sorry.
-/
import Derived.Test.YtibpjbmcjeglpaaChecked
import GoSem.Claim
import GoSem.ClaimJoined
import GoSem.ClaimMapViews
import Derived.JoinedTies
import Derived.KernelRfl
namespace Go.Proofs.Ytibpjbmcjeglpaa
/- THE CELL 'sum', in the pinned program and in every row, IS THE sha256 OF THE DUMP (.gsa) THAT YtibpjbmcjeglpaaProg.lean LOADS. Nothing in Lean hashes anything: it is a label: what it is worth is what the hold of that sum in a sandbox is worth. -/
noncomputable def Try.pinned : Pinned := { name := "ytibpjbmcjeglpaa", sum := "eb81e9183f12a1755c509b2b417f0c2eb7ebb417cc117d47ee3b0f8515f35186", checked := Try.checked }
namespace Rows
def none {H : Type} : Left H := { results := [], args := [] }

/-- 'davitlaw08.StashPlays': WHATEVER THE INPUT: true; the input reads as it did. -/
def stashPlaysSpec : ChangeSpec := { name := "stashPlays", fn := fun _ => fun
  | [d1, d2, d3] => { results := [.lit (.bool true)], args := [d1, d2, d3] }
  | _ => none }
def stashPlaysRow : OpenClaim := { program := "ytibpjbmcjeglpaa", sum := "eb81e9183f12a1755c509b2b417f0c2eb7ebb417cc117d47ee3b0f8515f35186", func := "davit/davitlaw08.StashPlays", spec := "stashPlays", unfollowed := true, recurses := true, apart := false }
def StashPlaysSaid : Prop := stashPlaysRow.holds Try.pinned (OpenSpec.ofChange stashPlaysSpec)

/-- ITS FALSE NEIGHBOUR: 'it returns false'. Refute it at one input. -/
def stashPlaysWrong : ChangeSpec := { name := "stashPlays", fn := fun _ => fun
  | [d1, d2, d3] => { results := [.lit (.bool false)], args := [d1, d2, d3] }
  | _ => none }
def StashPlaysWrongFalsely : Prop := stashPlaysRow.holds Try.pinned (OpenSpec.ofChange stashPlaysWrong)

/-- 'davitlaw08.StashOnce': WHATEVER THE INPUT: true; the input reads as it did. -/
def stashOnceSpec : ChangeSpec := { name := "stashOnce", fn := fun _ => fun
  | [d1, d2, d3] => { results := [.lit (.bool true)], args := [d1, d2, d3] }
  | _ => none }
def stashOnceRow : OpenClaim := { program := "ytibpjbmcjeglpaa", sum := "eb81e9183f12a1755c509b2b417f0c2eb7ebb417cc117d47ee3b0f8515f35186", func := "davit/davitlaw08.StashOnce", spec := "stashOnce", unfollowed := true, recurses := true, apart := false }
def StashOnceSaid : Prop := stashOnceRow.holds Try.pinned (OpenSpec.ofChange stashOnceSpec)

/-- ITS FALSE NEIGHBOUR: 'it returns false'. Refute it at one input. -/
def stashOnceWrong : ChangeSpec := { name := "stashOnce", fn := fun _ => fun
  | [d1, d2, d3] => { results := [.lit (.bool false)], args := [d1, d2, d3] }
  | _ => none }
def StashOnceWrongFalsely : Prop := stashOnceRow.holds Try.pinned (OpenSpec.ofChange stashOnceWrong)

/-- 'davitlaw08.StashDrains': WHATEVER THE INPUT: true; the input reads as it did. -/
def stashDrainsSpec : ChangeSpec := { name := "stashDrains", fn := fun _ => fun
  | [d1, d2, d3] => { results := [.lit (.bool true)], args := [d1, d2, d3] }
  | _ => none }
def stashDrainsRow : OpenClaim := { program := "ytibpjbmcjeglpaa", sum := "eb81e9183f12a1755c509b2b417f0c2eb7ebb417cc117d47ee3b0f8515f35186", func := "davit/davitlaw08.StashDrains", spec := "stashDrains", unfollowed := true, recurses := true, apart := false }
def StashDrainsSaid : Prop := stashDrainsRow.holds Try.pinned (OpenSpec.ofChange stashDrainsSpec)

/-- ITS FALSE NEIGHBOUR: 'it returns false'. Refute it at one input. -/
def stashDrainsWrong : ChangeSpec := { name := "stashDrains", fn := fun _ => fun
  | [d1, d2, d3] => { results := [.lit (.bool false)], args := [d1, d2, d3] }
  | _ => none }
def StashDrainsWrongFalsely : Prop := stashDrainsRow.holds Try.pinned (OpenSpec.ofChange stashDrainsWrong)

/-- 'davitlaw08.StashNil': WHATEVER THE INPUT: true; the input reads as it did. -/
def stashNilSpec : ChangeSpec := { name := "stashNil", fn := fun _ => fun
  | [d1, d2] => { results := [.lit (.bool true)], args := [d1, d2] }
  | _ => none }
def stashNilRow : OpenClaim := { program := "ytibpjbmcjeglpaa", sum := "eb81e9183f12a1755c509b2b417f0c2eb7ebb417cc117d47ee3b0f8515f35186", func := "davit/davitlaw08.StashNil", spec := "stashNil", unfollowed := true, recurses := true, apart := false }
def StashNilSaid : Prop := stashNilRow.holds Try.pinned (OpenSpec.ofChange stashNilSpec)

/-- ITS FALSE NEIGHBOUR: 'it returns false'. Refute it at one input. -/
def stashNilWrong : ChangeSpec := { name := "stashNil", fn := fun _ => fun
  | [d1, d2] => { results := [.lit (.bool false)], args := [d1, d2] }
  | _ => none }
def StashNilWrongFalsely : Prop := stashNilRow.holds Try.pinned (OpenSpec.ofChange stashNilWrong)

/- THE SECOND FORM. 'bulk': how many values and letters a reading holds, each counted each time it is reached (what is shared counts as often as it is met; a slice's spare places count too). A statement '..UptoSaid' is the law's where the arguments, and the package variables that the reading takes, are together of bulk at most 1048576: NARROWER than '..Said'. Prove '..Said' where nothing that the law and all that it calls make is longer than what came in: it says more and counts as full. Else prove '..UptoSaid'. A law counts once. -/
mutual
def uptoBulk {H : Type} : DataW H → Nat
  | .lit (.string bytes) => bytes.length + 1
  | .lit _ => 1
  | .nil => 1
  | .ptr d => uptoBulk d + 1
  | .slice elems spare => uptoBulkAll elems + uptoBulkAll spare + 1
  | .agg parts => uptoBulkAll parts + 1
  | .iface _ d => uptoBulk d + 1
  | .map entries => uptoBulkEntries entries + 1
  | .held _ => 1
def uptoBulkAll {H : Type} : List (DataW H) → Nat
  | [] => 0
  | d :: r => uptoBulk d + uptoBulkAll r
def uptoBulkEntries {H : Type} : List (Lit × DataW H) → Nat
  | [] => 0
  | x :: r => uptoBulkEntry x + uptoBulkEntries r
def uptoBulkEntry {H : Type} : Lit × DataW H → Nat
  | (.string bytes, d) => bytes.length + uptoBulk d + 1
  | (_, d) => uptoBulk d + 1
 end
def uptoSmall : (H : Type) → List (DataW H) → Bool := fun _ ds => decide (uptoBulkAll ds ≤ 1048576)
def OpenSpec.upto (s : _root_.Go.ChangeSpec) : _root_.Go.OpenSpec := { _root_.Go.OpenSpec.ofChange s with cond := some uptoSmall }

/-- 'davitlaw08.StashPlays', WHERE WHAT IT READS IS OF BULK AT MOST 1048576: true; the input reads as it did. -/
def stashPlaysUptoRow : OpenClaim := { program := "ytibpjbmcjeglpaa", sum := "eb81e9183f12a1755c509b2b417f0c2eb7ebb417cc117d47ee3b0f8515f35186", func := "davit/davitlaw08.StashPlays", spec := "stashPlays", unfollowed := true, recurses := true, apart := false, narrowed := true }
def StashPlaysUptoSaid : Prop := stashPlaysUptoRow.holds Try.pinned (OpenSpec.upto stashPlaysSpec)

/-- 'davitlaw08.StashOnce', WHERE WHAT IT READS IS OF BULK AT MOST 1048576: true; the input reads as it did. -/
def stashOnceUptoRow : OpenClaim := { program := "ytibpjbmcjeglpaa", sum := "eb81e9183f12a1755c509b2b417f0c2eb7ebb417cc117d47ee3b0f8515f35186", func := "davit/davitlaw08.StashOnce", spec := "stashOnce", unfollowed := true, recurses := true, apart := false, narrowed := true }
def StashOnceUptoSaid : Prop := stashOnceUptoRow.holds Try.pinned (OpenSpec.upto stashOnceSpec)

/-- 'davitlaw08.StashDrains', WHERE WHAT IT READS IS OF BULK AT MOST 1048576: true; the input reads as it did. -/
def stashDrainsUptoRow : OpenClaim := { program := "ytibpjbmcjeglpaa", sum := "eb81e9183f12a1755c509b2b417f0c2eb7ebb417cc117d47ee3b0f8515f35186", func := "davit/davitlaw08.StashDrains", spec := "stashDrains", unfollowed := true, recurses := true, apart := false, narrowed := true }
def StashDrainsUptoSaid : Prop := stashDrainsUptoRow.holds Try.pinned (OpenSpec.upto stashDrainsSpec)

/-- 'davitlaw08.StashNil', WHERE WHAT IT READS IS OF BULK AT MOST 1048576: true; the input reads as it did. -/
def stashNilUptoRow : OpenClaim := { program := "ytibpjbmcjeglpaa", sum := "eb81e9183f12a1755c509b2b417f0c2eb7ebb417cc117d47ee3b0f8515f35186", func := "davit/davitlaw08.StashNil", spec := "stashNil", unfollowed := true, recurses := true, apart := false, narrowed := true }
def StashNilUptoSaid : Prop := stashNilUptoRow.holds Try.pinned (OpenSpec.upto stashNilSpec)

end Rows
end Go.Proofs.Ytibpjbmcjeglpaa
