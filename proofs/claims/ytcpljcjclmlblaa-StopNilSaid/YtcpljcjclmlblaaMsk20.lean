/- What the functions on masks of cores come to. -/
import Derived.Test.YtcpljcjclmlblaaPrg20
import Derived.Test.YtcpljcjclmlblaaV20
import Derived.Test.YtcpljcjclmlblaaBits
namespace Go.Dav
open Go.Proofs

theorem elI : ElemT Try.prog 23 3 1 8 [.int .i64 0] := ⟨by kernel_rfl, by kernel_rfl, rfl, by omega⟩

theorem rHas_ok (m : BV) (c : Int) (w : World) : Calls Try.prog 8 #[.int .u64 (mi m), .int .i64 c] w fun e w' => e = .returned (.bool (hs m c)) ∧ w' = w := by
  refine u8 ?_
  rw [t8]
  refine ⟨fun h0 => ⟨fun h1 => ⟨?_, rfl⟩, fun h1 => ⟨?_, by decide, ?_, rfl⟩⟩, fun h0 => ⟨?_, rfl⟩⟩
  · rw [hs_range (by simp at h1; omega)]
  · simp at h0 h1; rw [wrapu (by omega)]; omega
  · simp at h0 h1; rw [wrapu (by omega), shr_mod (by omega)]
  · rw [hs_range (by simp at h0; omega)]
theorem wi_has {m : BV} {c : Int} (h : hs m c = true) : wi m c = m := ext_hs fun d _ _ => by
  rw [hs_wi]
  by_cases hd : d = c
  · subst hd; simp [h]
  · simp [hd]
theorem wi_out {m : BV} {c : Int} (h : ¬ (0 ≤ c ∧ c < 64)) : wi m c = m := by rw [wi, bt_out h]; simp
theorem rWith_ok (m : BV) (c : Int) (w : World) : Calls Try.prog 26 #[.int .u64 (mi m), .int .i64 c] w fun e w' => e = .returned (.int .u64 (mi (wi m c))) ∧ w' = w := by
  refine u26 ?_
  rw [t26]
  refine ⟨fun h0 => ⟨fun h1 => ⟨(rHas_ok m c w).mono ?_⟩, fun h1 => ⟨?_, rfl⟩⟩, fun h0 => ⟨?_, rfl⟩⟩
  · rintro e w' ⟨rfl, rfl⟩
    simp at h0 h1
    refine ⟨_, rfl, fun h2 => ⟨?_, rfl⟩, fun h2 => ⟨?_, ?_, rfl⟩⟩
    · rw [wi_has h2]
    · rw [wrapu (by omega)]; omega
    · rw [wrapu (x := c) (by omega), shl_one (by omega), wrap_add_bt h2]
  · rw [wi_out (by simp at h1; omega)]
  · rw [wi_out (by simp at h0; omega)]
theorem ls_has {m : BV} {c : Int} (h : hs m c = false) : ls m c = m := ext_hs fun d _ _ => by
  rw [hs_ls]
  by_cases hd : d = c
  · subst hd; simp [h]
  · simp [hd]
theorem rLess_ok (m : BV) (c : Int) (w : World) : Calls Try.prog 10 #[.int .u64 (mi m), .int .i64 c] w fun e w' => e = .returned (.int .u64 (mi (ls m c))) ∧ w' = w := by
  refine u10 ?_
  rw [t10]
  refine ⟨(rHas_ok m c w).mono ?_⟩
  rintro e w' ⟨rfl, rfl⟩
  refine ⟨_, rfl, fun h2 => ⟨?_, rfl⟩, fun h2 => ⟨?_, ?_, rfl⟩⟩
  · rw [ls_has (by simpa using h2)]
  · have := hs_in (m := m) (c := c) (by simpa using h2)
    rw [wrapu (by omega)]; omega
  · have := hs_in (m := m) (c := c) (by simpa using h2)
    rw [wrapu (x := c) (by omega), shl_one (by omega), wrap_sub_bt (by simpa using h2)]
theorem foldl_take {l : List Int} {i : Nat} (h : i < l.length) (m : BV) : (l.take (i + 1)).foldl wi m = wi ((l.take i).foldl wi m) l[i] := by
  rw [List.take_succ_eq_append_getElem h, List.foldl_append]
  rfl
theorem rOf_ok {w : World} {p : Option Addr} {l : List Int} {c : Nat} (h : Cells w p (l.map (Value.int .i64))) (hb : l.length ≤ 1048576) :
    Calls Try.prog 30 #[.slice p l.length c] w fun e w' => e = .returned (.int .u64 (mi (ofL l))) ∧ w' = w := by
  refine u30 ?_
  rw [t30]
  refine ⟨WP_loop okProg (M := M30) (σ := Nat) (fun i => e30_1 p l.length c (mi ((l.take i).foldl wi 0)) i) (fun i w' => i ≤ l.length ∧ w' = w) (fun i _ => l.length - i) 0 ⟨rfl, rfl, rfl, trivial⟩ ⟨by omega, rfl⟩ ?_⟩
  rintro i w' ⟨h1, rfl⟩
  rw [t30_1]
  refine ⟨fun hlt => ?_, fun hge => ⟨?_, rfl⟩⟩
  · have hi : i < l.length := by simpa using hlt
    obtain ⟨a, rfl, hc⟩ := h.at1 hi
    refine ⟨⟨by omega, by omega⟩, a, rfl, l[i], by simpa using hc, ⟨(rWith_ok _ _ w').mono ?_⟩⟩
    rintro e w' ⟨rfl, rfl⟩
    refine ⟨_, rfl, i + 1, ⟨rfl, by rw [foldl_take hi]; rfl, by rw [w64 (by omega)]; rfl, trivial⟩, ⟨by omega, rfl⟩, by omega⟩
  · have : i = l.length := by simp at hge; omega
    subst this
    rw [List.take_length]
    rfl
theorem rNot_ok (m o : BV) (w : World) : Calls Try.prog 28 #[.int .u64 (mi m), .int .u64 (mi o)] w fun e w' => e = .returned (.int .u64 (mi (m &&& ~~~ o))) ∧ Upd no w w' := by
  refine u28 ?_
  rw [t28]
  refine ⟨WP_loop okProg (M := M28) (σ := Nat × Option Addr × Nat) (fun s => e28_1 (mi m) (mi o) s.2.1 (upto (fun d => hs m d && !hs o d) s.1).length s.2.2 s.1)
    (fun s w' => s.1 ≤ 64 ∧ Loc w w' 3 s.2.1 s.2.2 (upto (fun d => hs m d && !hs o d) s.1)) (fun s _ => 64 - s.1) (0, none, 0) ⟨rfl, rfl, rfl, rfl, trivial⟩ ⟨by simp, Loc.nil (Upd.refl _ _) _⟩ ?_⟩
  rintro ⟨i, p, c⟩ w1 ⟨h1, hL⟩
  simp only at h1 hL ⊢
  rw [t28_1]
  have hs1 := upto_succ (fun d => hs m d && !hs o d) i
  have hb := upto_length (fun d => hs m d && !hs o d) i
  refine ⟨fun hlt => ⟨(rHas_ok m i w1).mono ?_⟩, fun hge => CutD.mk ?_⟩
  · have hi : i < 64 := by simp at hlt; omega
    rintro e w' ⟨rfl, rfl⟩
    refine ⟨_, rfl, fun hm => ⟨(rHas_ok o i w').mono ?_⟩, fun hm => ?_⟩
    · rintro e w' ⟨rfl, rfl⟩
      refine ⟨_, rfl, fun ho => ⟨fun w2 hN => ?_⟩, fun ho => ?_⟩
      · obtain ⟨p', c', w3, hr, hL'⟩ := hL.push elI (by omega) hN 23
        rw [if_pos (by simp [hm]; simpa using ho)] at hs1
        exact ⟨p', _, c', w3, hr, (i + 1, p', c'), ⟨rfl, rfl, by rw [hs1]; rfl, by rw [w64 (by omega)]; rfl, trivial⟩, ⟨by simp only; omega, by rw [hs1]; exact hL'⟩, by simp only; omega⟩
      · rw [if_neg (by simp [hm]; simpa using ho)] at hs1
        exact ⟨(i + 1, p, c), ⟨rfl, rfl, by rw [hs1]; rfl, by rw [w64 (by omega)]; rfl, trivial⟩, ⟨by simp only; omega, by rw [hs1]; exact hL⟩, by simp only; omega⟩
    · rw [if_neg (by simp [hm])] at hs1
      exact ⟨(i + 1, p, c), ⟨rfl, rfl, by rw [hs1]; rfl, by rw [w64 (by omega)]; rfl, trivial⟩, ⟨by simp only; omega, by rw [hs1]; exact hL⟩, by simp only; omega⟩
  · have : i = 64 := by simp at hge; omega
    subst this
    rw [t28_0]
    refine ⟨(rOf_ok hL.S.cells (by omega)).mono ?_⟩
    rintro e w' ⟨rfl, rfl⟩
    refine ⟨_, rfl, ?_, hL.U⟩
    have : ofL (upto (fun d => hs m d && !hs o d) 64) = m &&& ~~~ o := ext_hs fun d h0 h64 => by rw [hs_ofL_upto, hs_not]; simp [h0, h64]
    rw [this]
theorem mOne_ok (c : Int) (w : World) : Calls Try.prog 29 #[.int .i64 c] w fun e w' => e = .returned (.int .u64 (mi (bt c))) ∧ w' = w := by
  refine u29 ?_
  rw [t29]
  refine ⟨fun h0 => ⟨fun h1 => ⟨?_, rfl⟩, fun h1 => ⟨by simpa using h0, ?_, rfl⟩⟩, fun h0 => ⟨?_, rfl⟩⟩
  · rw [bt_out (by simp at h1; omega)]; rfl
  · rw [shl_one (by simp at h0 h1; omega)]
  · rw [bt_out (by simp at h0; omega)]; rfl
theorem mHas_ok (m : BV) (c : Int) (w : World) : Calls Try.prog 27 #[.int .u64 (mi m), .int .i64 c] w fun e w' => e = .returned (.bool (hs m c)) ∧ w' = w := by
  refine u27 ?_
  rw [t27]
  refine ⟨(mOne_ok c w).mono ?_⟩
  rintro e w' ⟨rfl, rfl⟩
  exact ⟨_, rfl, by rw [bits_and, mi_bne0, and_bt], rfl⟩
theorem mNot_ok (m o : BV) (w : World) : Calls Try.prog 25 #[.int .u64 (mi m), .int .u64 (mi o)] w fun e w' => e = .returned (.int .u64 (mi (m &&& ~~~ o))) ∧ w' = w := by
  refine u25 ?_
  rw [t25, bits_not]
  exact ⟨rfl, rfl⟩
theorem mWith_ok (m : BV) {w : World} {p : Option Addr} {l : List Int} {c : Nat} (h : Cells w p (l.map (Value.int .i64))) (hb : l.length ≤ 140737488355328) :
    Calls Try.prog 24 #[.int .u64 (mi m), .slice p l.length c] w fun e w' => e = .returned (.int .u64 (mi (l.foldl wi m))) ∧ w' = w := by
  refine u24 ?_
  rw [t24]
  refine ⟨WP_loop okProg (M := M24) (σ := Nat) (fun i => e24_1 (mi ((l.take i).foldl wi m)) p l.length c l.length i) (fun i w' => i ≤ l.length ∧ w' = w) (fun i _ => l.length - i) 0 ⟨rfl, rfl, rfl, rfl, trivial⟩ ⟨by omega, rfl⟩ ?_⟩
  rintro i w' ⟨h1, rfl⟩
  rw [t24_1]
  refine ⟨fun hlt => ?_, fun hge => ⟨?_, rfl⟩⟩
  · have hi : i < l.length := by simpa using hlt
    obtain ⟨a, rfl, hc⟩ := h.at1 hi
    refine ⟨⟨by omega, by omega⟩, a, rfl, l[i], by simpa using hc, ⟨(mOne_ok _ w').mono ?_⟩⟩
    rintro e w' ⟨rfl, rfl⟩
    exact ⟨_, rfl, i + 1, ⟨by rw [foldl_take hi, bits_or, wi]; rfl, rfl, rfl, by rw [w64 (by omega)]; rfl, trivial⟩, ⟨by omega, rfl⟩, by omega⟩
  · have : i = l.length := by simp at hge; omega
    subst this
    rw [List.take_length]
end Go.Dav
