/-
  WHAT IS PROVED: the statement 'Rows.PrioFirstSaid': for every input 'davit/…law.PrioFirst' returns true, and each argument reads behind the call as it read before. No condition.
  The frame follows the guide's shell for such rows; the walk is 'Go.Dav.prioFirst_ok'.
-/
import Derived.Test.YtejkpmndkpmjgaaRows
import Derived.WalkKit
import Derived.ProofKit
import Derived.OpenShut
import Derived.ShutString
import Derived.ChangeOld
import Derived.Below
import Derived.Test.YtejkpmndkpmjgaaRow
import Derived.Test.YtejkpmndkpmjgaaP09
namespace Go.Proofs.Ytejkpmndkpmjgaa.prioFirst
open Go.ChangeShapes Go.WideShapes Go.ChangeAt Go.RowKit
open Go.ChangeMaps (open_string shut_string)

theorem own : ownKnob Try.prog.godebug = none := by kernel_rfl
theorem laidOut : laidOutB Try.prog = true := by kernel_rfl

set_option maxRecDepth 100000 in
theorem lifted (os : Os) (started : os.Started) (H : Type) (enc : TypeId × Value → H) :
    ReturnsInHanded {} Try.checked os 5 .any (Rows.prioFirstSpec.pre6 enc Try.prog Try.f5 Rows.prioFirstRow.domain false) (Rows.prioFirstSpec.post enc Try.prog Try.f5 false true false false) := by
  refine returnsInHanded_of_change (C := Try.checked) own started (by kernel_rfl) Try.func5
    (ChangeSpec.witness6 (enc := enc) (C := Try.checked) false ⟨#[], #[.slice none 0 0], []⟩ 8 (by kernel_rfl) (by kernel_rfl) (by kernel_rfl) (by kernel_rfl)) ?_
  intro W base args ds gs before hval0 hW _ _
  have hval : ∀ (j : Nat) t v, Try.f5.params[j]? = some t → args[j]? = some v → Value.okWide Try.prog W .any base t v := hval0
  have hW' := hW
  obtain ⟨p, q, hA0, hV, rfl, hfz, hnd⟩ := hW
  have hA : DataW.TrodAll enc Try.prog W 0 (fun _ => true) true Try.f5.params.toList args.toList ds p := hA0
  rw [Try.params5] at hA hval
  obtain ⟨v0, vs0, d0, ds0, p0, q0, hargs, rfl, rfl, h0, r0⟩ := trodAll_cons hA
  obtain ⟨rfl, rfl, rfl⟩ := trodAll_nil r0
  obtain rfl : args = #[v0] := by cases args; simp_all
  obtain ⟨rfl, rfl⟩ := trodVars_none hV
  obtain ⟨a0, len0, cap0, e0⟩ := okWide_slice Try.underlying22 (hval 0 22 v0 rfl rfl)
  have lt0 : ∀ x ∈ p0, x.block < W.heap.size := by obtain ⟨m, hm⟩ := h0; exact DataW.trod_lt m _ _ _ hm
  obtain ⟨l0, n0, q0, c0, m0⟩ := Go.Dav.open_recs (f := Go.Dav.recIII) (Q := Go.Dav.okIII) Go.Dav.recIII_len Try.underlying22 (by kernel_rfl) (fun n cs y hy => by
    have := Go.Dav.rec_fits (ks := [.int .i64, .int .i64, .int .i64]) (by kernel_rfl) hy
    match cs, this with
    | [.int _ x0, .int _ x1, .int _ x2], ⟨rfl, y0, rfl, y1, rfl, y2, _⟩ => exact ⟨(x0, x1, x2), rfl, ⟨y0, y1, y2⟩⟩) e0 h0
  subst n0
  subst e0
  clear hA0 hval0
  refine (Go.Dav.prioFirst_ok (W := W) q0 c0 (Nat.le_trans m0.1 m0.2)).mono fun e W' ⟨he, up⟩ => ?_
  have bel := up.below
  subst he
  exact ⟨_, rfl, _, _, _, [], _, [], hW', trodAll_mk1 (shut_bool Try.underlying4 _), (trodAll_cons_mk (Below.trod laidOut (by kernel_rfl) (of_decide_eq_true (by kernel_rfl)) h0 bel lt0) trodAll_mk0), rfl, bel.frame _, fun h => by cases h⟩

theorem over : Rows.prioFirstRow.holds Try.pinned (OpenSpec.ofChange Rows.prioFirstSpec) :=
  OpenClaim.holds_of_wide 5 Try.f5 rfl rfl rfl rfl rfl rfl rfl ⟨rfl, rfl, rfl, rfl, rfl⟩ rfl rfl rfl rfl rfl (by kernel_rfl) Try.func5 (by kernel_rfl)
    (of_decide_eq_true (by kernel_rfl)) (by unfold Func.isWrapper; first | (rw [if_pos (by decide +kernel)]; kernel_rfl) | (rw [if_neg (by decide +kernel)]; exact ⟨rfl, rfl⟩))
    (fun os started H enc _ => lifted os started H enc)

end Go.Proofs.Ytejkpmndkpmjgaa.prioFirst

namespace Go.Proofs.Ytejkpmndkpmjgaa
/-- The statement. -/
theorem prioFirst_holds : Rows.PrioFirstSaid := prioFirst.over
end Go.Proofs.Ytejkpmndkpmjgaa
