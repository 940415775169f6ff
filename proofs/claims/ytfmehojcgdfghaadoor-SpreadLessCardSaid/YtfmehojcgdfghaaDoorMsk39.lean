/- What the functions on masks of cores come to. -/
import Derived.Test.YtfmehojcgdfghaaDoorPrg39
import Derived.Test.YtfmehojcgdfghaaDoorV39
import Derived.Test.YtfmehojcgdfghaaDoorV39x
import Derived.Test.YtfmehojcgdfghaaDoorBits
set_option linter.unusedSimpArgs false
set_option linter.unusedVariables false
namespace Go.Dav
open Go.Proofs

theorem elI : ElemT Tryd.prog 23 3 1 8 [.int .i64 0] := ⟨by kernel_rfl, by kernel_rfl, rfl, by omega⟩

theorem rHas_ok (m : BV) (c : Int) (w : World) : Calls Tryd.prog 31 #[.int .u64 (mi m), .int .i64 c] w fun e w' => e = .returned (.bool (hs m c)) ∧ w' = w := by
  refine u31 ?_
  rw [t31]
  refine ⟨fun h0 => ⟨fun h1 => ⟨?_, rfl⟩, fun h1 => ⟨?_, by decide, ?_, rfl⟩⟩, fun h0 => ⟨?_, rfl⟩⟩
  · rw [hs_range (by simp at h1; omega)]
  · simp at h0 h1; rw [wrapu (by omega)]; omega
  · simp at h0 h1; rw [wrapu (by omega), shr_mod (by omega)]
  · rw [hs_range (by simp at h0; omega)]
theorem wi_has {m : BV} {c : Int} (h : hs m c = true) : wi m c = m := ext_hs fun d _ _ => by
  rw [hs_wi]
  by_cases hd : d = c
  · subst hd; simp [h]
  · simp [hd]
theorem wi_out {m : BV} {c : Int} (h : ¬ (0 ≤ c ∧ c < 64)) : wi m c = m := by rw [wi, bt_out h]; simp
theorem rWith_ok (m : BV) (c : Int) (w : World) : Calls Tryd.prog 50 #[.int .u64 (mi m), .int .i64 c] w fun e w' => e = .returned (.int .u64 (mi (wi m c))) ∧ w' = w := by
  refine u50 ?_
  rw [t50]
  refine ⟨fun h0 => ⟨fun h1 => ⟨(rHas_ok m c w).mono ?_⟩, fun h1 => ⟨?_, rfl⟩⟩, fun h0 => ⟨?_, rfl⟩⟩
  · rintro e w' ⟨rfl, rfl⟩
    simp at h0 h1
    refine ⟨_, rfl, fun h2 => ⟨?_, rfl⟩, fun h2 => ⟨?_, ?_, rfl⟩⟩
    · rw [wi_has h2]
    · rw [wrapu (by omega)]; omega
    · rw [wrapu (x := c) (by omega), shl_one (by omega), wrap_add_bt h2]
  · rw [wi_out (by simp at h1; omega)]
  · rw [wi_out (by simp at h0; omega)]
theorem foldl_take {l : List Int} {i : Nat} (h : i < l.length) (m : BV) : (l.take (i + 1)).foldl wi m = wi ((l.take i).foldl wi m) l[i] := by
  rw [List.take_succ_eq_append_getElem h, List.foldl_append]
  rfl
theorem rOf_ok {w : World} {p : Option Addr} {l : List Int} {c : Nat} (h : Cells w p (l.map (Value.int .i64))) (hb : l.length ≤ 1048576) :
    Calls Tryd.prog 49 #[.slice p l.length c] w fun e w' => e = .returned (.int .u64 (mi (ofL l))) ∧ w' = w := by
  refine u49 ?_
  rw [t49]
  refine ⟨WP_loop okProg (M := M49) (σ := Nat) (fun i => e49_1 p l.length c (mi ((l.take i).foldl wi 0)) i) (fun i w' => i ≤ l.length ∧ w' = w) (fun i _ => l.length - i) 0 ⟨rfl, rfl, rfl, trivial⟩ ⟨by omega, rfl⟩ ?_⟩
  rintro i w' ⟨h1, rfl⟩
  rw [t49_1]
  refine ⟨fun hlt => ?_, fun hge => ⟨?_, rfl⟩⟩
  · have hi : i < l.length := by simpa using hlt
    obtain ⟨a, rfl, hc⟩ := h.at1 hi
    refine ⟨⟨by omega, by omega⟩, a, rfl, l[i], by simpa using hc, ⟨(rWith_ok _ _ w').mono ?_⟩⟩
    rintro e w' ⟨rfl, rfl⟩
    refine ⟨_, rfl, i + 1, ⟨rfl, by rw [foldl_take hi]; rfl, by rw [w64 (by omega)]; rfl, trivial⟩, ⟨by omega, rfl⟩, by omega⟩
  · have : i = l.length := by simp at hge; omega
    subst this
    rw [List.take_length]
    rfl
theorem rNot_ok (m o : BV) (w : World) : Calls Tryd.prog 38 #[.int .u64 (mi m), .int .u64 (mi o)] w fun e w' => e = .returned (.int .u64 (mi (m &&& ~~~ o))) ∧ Upd no w w' := by
  refine u38 ?_
  rw [t38]
  refine ⟨WP_loop okProg (M := M38) (σ := Nat × Option Addr × Nat) (fun s => e38_1 (mi m) (mi o) s.2.1 (upto (fun d => hs m d && !hs o d) s.1).length s.2.2 s.1)
    (fun s w' => s.1 ≤ 64 ∧ Loc w w' 3 s.2.1 s.2.2 (upto (fun d => hs m d && !hs o d) s.1)) (fun s _ => 64 - s.1) (0, none, 0) ⟨rfl, rfl, rfl, rfl, trivial⟩ ⟨by simp, Loc.nil (Upd.refl _ _) _⟩ ?_⟩
  rintro ⟨i, p, c⟩ w1 ⟨h1, hL⟩
  simp only at h1 hL ⊢
  rw [t38_1]
  have hs1 := upto_succ (fun d => hs m d && !hs o d) i
  have hb := upto_length (fun d => hs m d && !hs o d) i
  refine ⟨fun hlt => ⟨(rHas_ok m i w1).mono ?_⟩, fun hge => CutD.mk ?_⟩
  · have hi : i < 64 := by simp at hlt; omega
    rintro e w' ⟨rfl, rfl⟩
    refine ⟨_, rfl, fun hm => ⟨(rHas_ok o i w').mono ?_⟩, fun hm => ?_⟩
    · rintro e w' ⟨rfl, rfl⟩
      refine ⟨_, rfl, fun ho => ⟨fun w2 hN => ?_⟩, fun ho => ?_⟩
      · obtain ⟨p', c', w3, hr, hL'⟩ := hL.push elI (by omega) hN 23
        rw [if_pos (by simp [hm]; simpa using ho)] at hs1
        exact ⟨p', _, c', w3, hr, (i + 1, p', c'), ⟨rfl, rfl, by rw [hs1]; rfl, by rw [w64 (by omega)]; rfl, trivial⟩, ⟨by simp only; omega, by rw [hs1]; exact hL'⟩, by simp only; omega⟩
      · rw [if_neg (by simp [hm]; simpa using ho)] at hs1
        exact ⟨(i + 1, p, c), ⟨rfl, rfl, by rw [hs1]; rfl, by rw [w64 (by omega)]; rfl, trivial⟩, ⟨by simp only; omega, by rw [hs1]; exact hL⟩, by simp only; omega⟩
    · rw [if_neg (by simp [hm])] at hs1
      exact ⟨(i + 1, p, c), ⟨rfl, rfl, by rw [hs1]; rfl, by rw [w64 (by omega)]; rfl, trivial⟩, ⟨by simp only; omega, by rw [hs1]; exact hL⟩, by simp only; omega⟩
  · have : i = 64 := by simp at hge; omega
    subst this
    rw [t38_0]
    refine ⟨(rOf_ok hL.S.cells (by omega)).mono ?_⟩
    rintro e w' ⟨rfl, rfl⟩
    refine ⟨_, rfl, ?_, hL.U⟩
    have : ofL (upto (fun d => hs m d && !hs o d) 64) = m &&& ~~~ o := ext_hs fun d h0 h64 => by rw [hs_ofL_upto, hs_not]; simp [h0, h64]
    rw [this]
theorem mOne_ok (c : Int) (w : World) : Calls Tryd.prog 44 #[.int .i64 c] w fun e w' => e = .returned (.int .u64 (mi (bt c))) ∧ w' = w := by
  refine u44 ?_
  rw [t44]
  refine ⟨fun h0 => ⟨fun h1 => ⟨?_, rfl⟩, fun h1 => ⟨by simpa using h0, ?_, rfl⟩⟩, fun h0 => ⟨?_, rfl⟩⟩
  · rw [bt_out (by simp at h1; omega)]; rfl
  · rw [shl_one (by simp at h0 h1; omega)]
  · rw [bt_out (by simp at h0; omega)]; rfl
theorem mHas_ok (m : BV) (c : Int) (w : World) : Calls Tryd.prog 25 #[.int .u64 (mi m), .int .i64 c] w fun e w' => e = .returned (.bool (hs m c)) ∧ w' = w := by
  refine u25 ?_
  rw [t25]
  refine ⟨(mOne_ok c w).mono ?_⟩
  rintro e w' ⟨rfl, rfl⟩
  exact ⟨_, rfl, by rw [bits_and, mi_bne0, and_bt], rfl⟩
theorem mUpto_ok (n : Int) (w : World) : Calls Tryd.prog 46 #[.int .i64 n] w fun e w' => e = .returned (.int .u64 (mi (upM n))) ∧ w' = w := by
  refine u46 ?_
  rw [t46]
  refine ⟨fun h0 => ⟨?_, rfl⟩, fun h0 => ⟨fun h1 => ⟨?_, rfl⟩, fun h1 => ⟨(mOne_ok n w).mono ?_⟩⟩⟩
  · have h0 : n ≤ 0 := by simpa using h0
    rw [mi_upM, show min n.toNat 64 = 0 by omega]; rfl
  · have h1 : 64 ≤ n := by simpa using h1
    rw [mi_upM, show min n.toNat 64 = 64 by omega]; rfl
  · have h0 : ¬ n ≤ 0 := by simpa using h0
    have h1 : ¬ 64 ≤ n := by simpa using h1
    rintro e w' ⟨rfl, rfl⟩
    refine ⟨_, rfl, ?_, rfl⟩
    have := mi_nonneg (upM n)
    have := mi_lt (upM n)
    have e1 : mi (bt n) - 1 = mi (upM n) := by rw [mi_bt (by omega), mi_upM, show min n.toNat 64 = n.toNat by omega]
    rw [e1, wrapu (by omega)]
theorem rUpto_ok (n : Int) (w : World) : Calls Tryd.prog 39 #[.int .i64 n] w fun e w' => e = .returned (.int .u64 (mi (upM n))) ∧ w' = w := by
  refine u39 ?_
  rw [t39]
  refine ⟨WP_loop okProg (M := M39) (σ := Nat) (fun i => e39_1 n (mi (upM i)) i) (fun i w' => i ≤ 64 ∧ ((i : Int) ≤ n ∨ i = 0) ∧ w' = w) (fun i _ => 64 - i) 0 ⟨rfl, rfl, rfl, trivial⟩ ⟨by omega, .inr rfl, rfl⟩ ?_⟩
  rintro i w' ⟨h1, h2, rfl⟩
  rw [t39_1]
  refine ⟨fun g1 => ⟨fun g2 => ⟨(rWith_ok _ _ w').mono ?_⟩, fun g2 => ⟨?_, rfl⟩⟩, fun g1 => ⟨?_, rfl⟩⟩
  · have g1 : (i : Int) < n := by simpa using g1
    have g2 : i < 64 := by simp at g2; omega
    rintro e w' ⟨rfl, rfl⟩
    refine ⟨_, rfl, i + 1, ⟨rfl, by rw [upM_succ i g2]; rfl, by rw [w64 (by omega)]; rfl, trivial⟩, ⟨by omega, .inl (by omega), rfl⟩, by omega⟩
  · have g1 : (i : Int) < n := by simpa using g1
    have g2 : i = 64 := by simp at g2; omega
    have : upM (i : Int) = upM n := ext_hs fun d _ _ => by
      rw [hs_upM, hs_upM, Bool.eq_iff_iff]
      simp only [Bool.and_eq_true, decide_eq_true_iff]
      omega
    rw [this]
  · have g1 : n ≤ (i : Int) := by simpa using g1
    have : upM (i : Int) = upM n := ext_hs fun d _ _ => by
      rw [hs_upM, hs_upM, Bool.eq_iff_iff]
      simp only [Bool.and_eq_true, decide_eq_true_iff]
      omega
    rw [this]
theorem mWithin_ok (m o : BV) (w : World) : Calls Tryd.prog 45 #[.int .u64 (mi m), .int .u64 (mi o)] w fun e w' => e = .returned (.bool ((m &&& ~~~ o) == 0)) ∧ w' = w := by
  refine u45 ?_
  rw [t45, bits_not, mi_beq0]
  exact ⟨rfl, rfl⟩
end Go.Dav
