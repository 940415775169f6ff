/- What the functions on masks of cores come to. -/
import Derived.Test.YtbcnndaiaailgaaPrg16
import Derived.Test.YtbcnndaiaailgaaV16
import Derived.Test.YtbcnndaiaailgaaBits
namespace Go.Dav
open Go.Proofs

theorem elI : ElemT Try.prog 38 3 1 8 [.int .i64 0] := ⟨by kernel_rfl, by kernel_rfl, rfl, by omega⟩

theorem rHas_ok (m : BV) (c : Int) (w : World) : Calls Try.prog 26 #[.int .u64 (mi m), .int .i64 c] w fun e w' => e = .returned (.bool (hs m c)) ∧ w' = w := by
  refine u26 ?_
  rw [t26]
  refine ⟨fun h0 => ⟨fun h1 => ⟨?_, rfl⟩, fun h1 => ⟨?_, by decide, ?_, rfl⟩⟩, fun h0 => ⟨?_, rfl⟩⟩
  · rw [hs_range (by simp at h1; omega)]
  · simp at h0 h1; rw [wrapu (by omega)]; omega
  · simp at h0 h1; rw [wrapu (by omega), shr_mod (by omega)]
  · rw [hs_range (by simp at h0; omega)]
theorem wi_has {m : BV} {c : Int} (h : hs m c = true) : wi m c = m := ext_hs fun d _ _ => by
  rw [hs_wi]
  by_cases hd : d = c
  · subst hd; simp [h]
  · simp [hd]
theorem wi_out {m : BV} {c : Int} (h : ¬ (0 ≤ c ∧ c < 64)) : wi m c = m := by rw [wi, bt_out h]; simp
theorem rWith_ok (m : BV) (c : Int) (w : World) : Calls Try.prog 25 #[.int .u64 (mi m), .int .i64 c] w fun e w' => e = .returned (.int .u64 (mi (wi m c))) ∧ w' = w := by
  refine u25 ?_
  rw [t25]
  refine ⟨fun h0 => ⟨fun h1 => ⟨(rHas_ok m c w).mono ?_⟩, fun h1 => ⟨?_, rfl⟩⟩, fun h0 => ⟨?_, rfl⟩⟩
  · rintro e w' ⟨rfl, rfl⟩
    simp at h0 h1
    refine ⟨_, rfl, fun h2 => ⟨?_, rfl⟩, fun h2 => ⟨?_, ?_, rfl⟩⟩
    · rw [wi_has h2]
    · rw [wrapu (by omega)]; omega
    · rw [wrapu (x := c) (by omega), shl_one (by omega), wrap_add_bt h2]
  · rw [wi_out (by simp at h1; omega)]
  · rw [wi_out (by simp at h0; omega)]
theorem foldl_take {l : List Int} {i : Nat} (h : i < l.length) (m : BV) : (l.take (i + 1)).foldl wi m = wi ((l.take i).foldl wi m) l[i] := by
  rw [List.take_succ_eq_append_getElem h, List.foldl_append]
  rfl
theorem rOf_ok {w : World} {p : Option Addr} {l : List Int} {c : Nat} (h : Cells w p (l.map (Value.int .i64))) (hb : l.length ≤ 1048576) :
    Calls Try.prog 23 #[.slice p l.length c] w fun e w' => e = .returned (.int .u64 (mi (ofL l))) ∧ w' = w := by
  refine u23 ?_
  rw [t23]
  refine ⟨WP_loop okProg (M := M23) (σ := Nat) (fun i => e23_1 p l.length c (mi ((l.take i).foldl wi 0)) i) (fun i w' => i ≤ l.length ∧ w' = w) (fun i _ => l.length - i) 0 ⟨rfl, rfl, rfl, trivial⟩ ⟨by omega, rfl⟩ ?_⟩
  rintro i w' ⟨h1, rfl⟩
  rw [t23_1]
  refine ⟨fun hlt => ?_, fun hge => ⟨?_, rfl⟩⟩
  · have hi : i < l.length := by simpa using hlt
    obtain ⟨a, rfl, hc⟩ := h.at1 hi
    refine ⟨⟨by omega, by omega⟩, a, rfl, l[i], by simpa using hc, ⟨(rWith_ok _ _ w').mono ?_⟩⟩
    rintro e w' ⟨rfl, rfl⟩
    refine ⟨_, rfl, i + 1, ⟨rfl, by rw [foldl_take hi]; rfl, by rw [w64 (by omega)]; rfl, trivial⟩, ⟨by omega, rfl⟩, by omega⟩
  · have : i = l.length := by simp at hge; omega
    subst this
    rw [List.take_length]
    rfl
theorem mOne_ok (c : Int) (w : World) : Calls Try.prog 24 #[.int .i64 c] w fun e w' => e = .returned (.int .u64 (mi (bt c))) ∧ w' = w := by
  refine u24 ?_
  rw [t24]
  refine ⟨fun h0 => ⟨fun h1 => ⟨?_, rfl⟩, fun h1 => ⟨by simpa using h0, ?_, rfl⟩⟩, fun h0 => ⟨?_, rfl⟩⟩
  · rw [bt_out (by simp at h1; omega)]; rfl
  · rw [shl_one (by simp at h0 h1; omega)]
  · rw [bt_out (by simp at h0; omega)]; rfl
theorem mHas_ok (m : BV) (c : Int) (w : World) : Calls Try.prog 20 #[.int .u64 (mi m), .int .i64 c] w fun e w' => e = .returned (.bool (hs m c)) ∧ w' = w := by
  refine u20 ?_
  rw [t20]
  refine ⟨(mOne_ok c w).mono ?_⟩
  rintro e w' ⟨rfl, rfl⟩
  exact ⟨_, rfl, by rw [bits_and, mi_bne0, and_bt], rfl⟩
theorem mWith_ok (m : BV) {w : World} {p : Option Addr} {l : List Int} {c : Nat} (h : Cells w p (l.map (Value.int .i64))) (hb : l.length ≤ 140737488355328) :
    Calls Try.prog 22 #[.int .u64 (mi m), .slice p l.length c] w fun e w' => e = .returned (.int .u64 (mi (l.foldl wi m))) ∧ w' = w := by
  refine u22 ?_
  rw [t22]
  refine ⟨WP_loop okProg (M := M22) (σ := Nat) (fun i => e22_1 (mi ((l.take i).foldl wi m)) p l.length c l.length i) (fun i w' => i ≤ l.length ∧ w' = w) (fun i _ => l.length - i) 0 ⟨rfl, rfl, rfl, rfl, trivial⟩ ⟨by omega, rfl⟩ ?_⟩
  rintro i w' ⟨h1, rfl⟩
  rw [t22_1]
  refine ⟨fun hlt => ?_, fun hge => ⟨?_, rfl⟩⟩
  · have hi : i < l.length := by simpa using hlt
    obtain ⟨a, rfl, hc⟩ := h.at1 hi
    refine ⟨⟨by omega, by omega⟩, a, rfl, l[i], by simpa using hc, ⟨(mOne_ok _ w').mono ?_⟩⟩
    rintro e w' ⟨rfl, rfl⟩
    exact ⟨_, rfl, i + 1, ⟨by rw [foldl_take hi, bits_or, wi]; rfl, rfl, rfl, by rw [w64 (by omega)]; rfl, trivial⟩, ⟨by omega, rfl⟩, by omega⟩
  · have : i = l.length := by simp at hge; omega
    subst this
    rw [List.take_length]
end Go.Dav
