/- What the functions on masks of cores come to. -/
import Derived.Test.YtgakbnonkgohfaaDoorPrg10d
import Derived.Test.YtgakbnonkgohfaaDoorV10da
import Derived.Test.YtgakbnonkgohfaaDoorV10db
import Derived.Test.YtgakbnonkgohfaaDoorV10dx
import Derived.Test.YtgakbnonkgohfaaDoorBits
set_option linter.unusedSimpArgs false
set_option linter.unusedVariables false
namespace Go.Dav
open Go.Proofs

theorem elI : ElemT Tryd.prog 39 3 1 8 [.int .i64 0] := ⟨by kernel_rfl, by kernel_rfl, rfl, by omega⟩

theorem rHas_ok (m : BV) (c : Int) (w : World) : Calls Tryd.prog 63 #[.int .u64 (mi m), .int .i64 c] w fun e w' => e = .returned (.bool (hs m c)) ∧ w' = w := by
  refine u63 ?_
  rw [t63]
  refine ⟨fun h0 => ⟨fun h1 => ⟨?_, rfl⟩, fun h1 => ⟨?_, by decide, ?_, rfl⟩⟩, fun h0 => ⟨?_, rfl⟩⟩
  · rw [hs_range (by simp at h1; omega)]
  · simp at h0 h1; rw [wrapu (by omega)]; omega
  · simp at h0 h1; rw [wrapu (by omega), shr_mod (by omega)]
  · rw [hs_range (by simp at h0; omega)]
theorem mOne_ok (c : Int) (w : World) : Calls Tryd.prog 70 #[.int .i64 c] w fun e w' => e = .returned (.int .u64 (mi (bt c))) ∧ w' = w := by
  refine u70 ?_
  rw [t70]
  refine ⟨fun h0 => ⟨fun h1 => ⟨?_, rfl⟩, fun h1 => ⟨by simpa using h0, ?_, rfl⟩⟩, fun h0 => ⟨?_, rfl⟩⟩
  · rw [bt_out (by simp at h1; omega)]; rfl
  · rw [shl_one (by simp at h0 h1; omega)]
  · rw [bt_out (by simp at h0; omega)]; rfl
theorem mAnd_ok (m o : BV) (w : World) : Calls Tryd.prog 60 #[.int .u64 (mi m), .int .u64 (mi o)] w fun e w' => e = .returned (.int .u64 (mi (m &&& o))) ∧ w' = w := by
  refine u60 ?_
  rw [t60, bits_and]
  exact ⟨rfl, rfl⟩
theorem mUpto_ok (n : Int) (w : World) : Calls Tryd.prog 61 #[.int .i64 n] w fun e w' => e = .returned (.int .u64 (mi (upM n))) ∧ w' = w := by
  refine u61 ?_
  rw [t61]
  refine ⟨fun h0 => ⟨?_, rfl⟩, fun h0 => ⟨fun h1 => ⟨?_, rfl⟩, fun h1 => ⟨(mOne_ok n w).mono ?_⟩⟩⟩
  · have h0 : n ≤ 0 := by simpa using h0
    rw [mi_upM, show min n.toNat 64 = 0 by omega]; rfl
  · have h1 : 64 ≤ n := by simpa using h1
    rw [mi_upM, show min n.toNat 64 = 64 by omega]; rfl
  · have h0 : ¬ n ≤ 0 := by simpa using h0
    have h1 : ¬ 64 ≤ n := by simpa using h1
    rintro e w' ⟨rfl, rfl⟩
    refine ⟨_, rfl, ?_, rfl⟩
    have := mi_nonneg (upM n)
    have := mi_lt (upM n)
    have e1 : mi (bt n) - 1 = mi (upM n) := by rw [mi_bt (by omega), mi_upM, show min n.toNat 64 = n.toNat by omega]
    rw [e1, wrapu (by omega)]
end Go.Dav
