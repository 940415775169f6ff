/-
  WHAT IS PROVED: the statement 'Rows.RunqRoundSaid': for every input 'davit/…law.RunqRound' returns true, and each argument reads behind the call as it read before. No condition.
  The frame follows the guide's shell for such rows; the walk is 'Go.Dav.runqRound_ok'.
-/
import Derived.Test.YtgakbnonkgohfaaRows
import Derived.WalkKit
import Derived.ProofKit
import Derived.OpenShut
import Derived.ShutString
import Derived.ChangeOld
import Derived.Below
import Derived.Test.YtgakbnonkgohfaaRow
import Derived.Test.YtgakbnonkgohfaaP10p
namespace Go.Proofs.Ytgakbnonkgohfaa.runqRound
open Go.ChangeShapes Go.WideShapes Go.ChangeAt Go.RowKit
open Go.ChangeMaps (open_string shut_string)

theorem own : ownKnob Try.prog.godebug = none := by kernel_rfl
theorem laidOut : laidOutB Try.prog = true := by kernel_rfl

set_option maxRecDepth 100000 in
theorem lifted (os : Os) (started : os.Started) (H : Type) (enc : TypeId × Value → H) :
    ReturnsInHanded {} Try.checked os 3 .any (Rows.runqRoundSpec.pre6 enc Try.prog Try.f3 Rows.runqRoundRow.domain false) (Rows.runqRoundSpec.post enc Try.prog Try.f3 false true false false) := by
  refine returnsInHanded_of_change (C := Try.checked) own started (by kernel_rfl) Try.func3
    (ChangeSpec.witness6 (enc := enc) (C := Try.checked) false ⟨#[], #[.slice none 0 0], []⟩ 8 (by kernel_rfl) (by kernel_rfl) (by kernel_rfl) (by kernel_rfl)) ?_
  intro W base args ds gs before hval0 hW _ _
  have hval : ∀ (j : Nat) t v, Try.f3.params[j]? = some t → args[j]? = some v → Value.okWide Try.prog W .any base t v := hval0
  have hW' := hW
  obtain ⟨p, q, hA0, hV, rfl, hfz, hnd⟩ := hW
  have hA : DataW.TrodAll enc Try.prog W 0 (fun _ => true) true Try.f3.params.toList args.toList ds p := hA0
  rw [Try.params3] at hA hval
  obtain ⟨v0, vs0, d0, ds0, p0, q0, hargs, rfl, rfl, h0, r0⟩ := trodAll_cons hA
  obtain ⟨rfl, rfl, rfl⟩ := trodAll_nil r0
  obtain rfl : args = #[v0] := by cases args; simp_all
  obtain ⟨rfl, rfl⟩ := trodVars_none hV
  obtain ⟨a0, len0, cap0, e0⟩ := okWide_slice Try.underlying22 (hval 0 22 v0 rfl rfl)
  have lt0 : ∀ x ∈ p0, x.block < W.heap.size := by obtain ⟨m, hm⟩ := h0; exact DataW.trod_lt m _ _ _ hm
  obtain ⟨l0, n0, q0, c0, m0⟩ := Go.Dav.open_recs (f := Go.Dav.recIIIII) (Q := Go.Dav.okIIIII) Go.Dav.recIIIII_len Try.underlying22 (by kernel_rfl) (fun n cs y hy => by
    have := Go.Dav.rec_fits (ks := [.int .i64, .int .i64, .int .i64, .int .i64, .int .i64]) (by kernel_rfl) hy
    match cs, this with
    | [.int _ x0, .int _ x1, .int _ x2, .int _ x3, .int _ x4], ⟨rfl, y0, rfl, y1, rfl, y2, rfl, y3, rfl, y4, _⟩ => exact ⟨(x0, x1, x2, x3, x4), rfl, ⟨y0, y1, y2, y3, y4⟩⟩) e0 h0
  subst n0
  subst e0
  clear hA0 hval0
  refine (Go.Dav.runqRound_ok (W := W) q0 c0 (Nat.le_trans m0.1 m0.2)).mono fun e W' ⟨he, up⟩ => ?_
  have bel := up.below
  subst he
  exact ⟨_, rfl, _, _, _, [], _, [], hW', trodAll_mk1 (shut_bool Try.underlying4 _), (trodAll_cons_mk (Below.trod laidOut (by kernel_rfl) (of_decide_eq_true (by kernel_rfl)) h0 bel lt0) trodAll_mk0), rfl, bel.frame _, fun h => by cases h⟩

theorem over : Rows.runqRoundRow.holds Try.pinned (OpenSpec.ofChange Rows.runqRoundSpec) :=
  OpenClaim.holds_of_wide 3 Try.f3 rfl rfl rfl rfl rfl rfl rfl ⟨rfl, rfl, rfl, rfl, rfl⟩ rfl rfl rfl rfl rfl (by kernel_rfl) Try.func3 (by kernel_rfl)
    (of_decide_eq_true (by kernel_rfl)) (by unfold Func.isWrapper; first | (rw [if_pos (by decide +kernel)]; kernel_rfl) | (rw [if_neg (by decide +kernel)]; exact ⟨rfl, rfl⟩))
    (fun os started H enc _ => lifted os started H enc)

end Go.Proofs.Ytgakbnonkgohfaa.runqRound

namespace Go.Proofs.Ytgakbnonkgohfaa
/-- The statement. -/
theorem runqRound_holds : Rows.RunqRoundSaid := runqRound.over
end Go.Proofs.Ytgakbnonkgohfaa
