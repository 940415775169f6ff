/- What the functions on masks of cores come to. -/
import Derived.Test.YtjamndjdcfadcaaDoorPrg01
import Derived.Test.YtjamndjdcfadcaaDoorV01
import Derived.Test.YtjamndjdcfadcaaDoorBits
set_option linter.unusedSimpArgs false
set_option linter.unusedVariables false
namespace Go.Dav
open Go.Proofs

theorem elI : ElemT Tryd.prog 23 3 1 8 [.int .i64 0] := ⟨by kernel_rfl, by kernel_rfl, rfl, by omega⟩

theorem rHas_ok (m : BV) (c : Int) (w : World) : Calls Tryd.prog 18 #[.int .u64 (mi m), .int .i64 c] w fun e w' => e = .returned (.bool (hs m c)) ∧ w' = w := by
  refine u18 ?_
  rw [t18]
  refine ⟨fun h0 => ⟨fun h1 => ⟨?_, rfl⟩, fun h1 => ⟨?_, by decide, ?_, rfl⟩⟩, fun h0 => ⟨?_, rfl⟩⟩
  · rw [hs_range (by simp at h1; omega)]
  · simp at h0 h1; rw [wrapu (by omega)]; omega
  · simp at h0 h1; rw [wrapu (by omega), shr_mod (by omega)]
  · rw [hs_range (by simp at h0; omega)]
theorem wi_has {m : BV} {c : Int} (h : hs m c = true) : wi m c = m := ext_hs fun d _ _ => by
  rw [hs_wi]
  by_cases hd : d = c
  · subst hd; simp [h]
  · simp [hd]
theorem wi_out {m : BV} {c : Int} (h : ¬ (0 ≤ c ∧ c < 64)) : wi m c = m := by rw [wi, bt_out h]; simp
theorem rWith_ok (m : BV) (c : Int) (w : World) : Calls Tryd.prog 9 #[.int .u64 (mi m), .int .i64 c] w fun e w' => e = .returned (.int .u64 (mi (wi m c))) ∧ w' = w := by
  refine u9 ?_
  rw [t9]
  refine ⟨fun h0 => ⟨fun h1 => ⟨(rHas_ok m c w).mono ?_⟩, fun h1 => ⟨?_, rfl⟩⟩, fun h0 => ⟨?_, rfl⟩⟩
  · rintro e w' ⟨rfl, rfl⟩
    simp at h0 h1
    refine ⟨_, rfl, fun h2 => ⟨?_, rfl⟩, fun h2 => ⟨?_, ?_, rfl⟩⟩
    · rw [wi_has h2]
    · rw [wrapu (by omega)]; omega
    · rw [wrapu (x := c) (by omega), shl_one (by omega), wrap_add_bt h2]
  · rw [wi_out (by simp at h1; omega)]
  · rw [wi_out (by simp at h0; omega)]
theorem ls_has {m : BV} {c : Int} (h : hs m c = false) : ls m c = m := ext_hs fun d _ _ => by
  rw [hs_ls]
  by_cases hd : d = c
  · subst hd; simp [h]
  · simp [hd]
theorem rLess_ok (m : BV) (c : Int) (w : World) : Calls Tryd.prog 16 #[.int .u64 (mi m), .int .i64 c] w fun e w' => e = .returned (.int .u64 (mi (ls m c))) ∧ w' = w := by
  refine u16 ?_
  rw [t16]
  refine ⟨(rHas_ok m c w).mono ?_⟩
  rintro e w' ⟨rfl, rfl⟩
  refine ⟨_, rfl, fun h2 => ⟨?_, rfl⟩, fun h2 => ⟨?_, ?_, rfl⟩⟩
  · rw [ls_has (by simpa using h2)]
  · have := hs_in (m := m) (c := c) (by simpa using h2)
    rw [wrapu (by omega)]; omega
  · have := hs_in (m := m) (c := c) (by simpa using h2)
    rw [wrapu (x := c) (by omega), shl_one (by omega), wrap_sub_bt (by simpa using h2)]
theorem foldl_take {l : List Int} {i : Nat} (h : i < l.length) (m : BV) : (l.take (i + 1)).foldl wi m = wi ((l.take i).foldl wi m) l[i] := by
  rw [List.take_succ_eq_append_getElem h, List.foldl_append]
  rfl
theorem rOf_ok {w : World} {p : Option Addr} {l : List Int} {c : Nat} (h : Cells w p (l.map (Value.int .i64))) (hb : l.length ≤ 1048576) :
    Calls Tryd.prog 11 #[.slice p l.length c] w fun e w' => e = .returned (.int .u64 (mi (ofL l))) ∧ w' = w := by
  refine u11 ?_
  rw [t11]
  refine ⟨WP_loop okProg (M := M11) (σ := Nat) (fun i => e11_1 p l.length c (mi ((l.take i).foldl wi 0)) i) (fun i w' => i ≤ l.length ∧ w' = w) (fun i _ => l.length - i) 0 ⟨rfl, rfl, rfl, trivial⟩ ⟨by omega, rfl⟩ ?_⟩
  rintro i w' ⟨h1, rfl⟩
  rw [t11_1]
  refine ⟨fun hlt => ?_, fun hge => ⟨?_, rfl⟩⟩
  · have hi : i < l.length := by simpa using hlt
    obtain ⟨a, rfl, hc⟩ := h.at1 hi
    refine ⟨⟨by omega, by omega⟩, a, rfl, l[i], by simpa using hc, ⟨(rWith_ok _ _ w').mono ?_⟩⟩
    rintro e w' ⟨rfl, rfl⟩
    refine ⟨_, rfl, i + 1, ⟨rfl, by rw [foldl_take hi]; rfl, by rw [w64 (by omega)]; rfl, trivial⟩, ⟨by omega, rfl⟩, by omega⟩
  · have : i = l.length := by simp at hge; omega
    subst this
    rw [List.take_length]
    rfl
theorem rNot_ok (m o : BV) (w : World) : Calls Tryd.prog 24 #[.int .u64 (mi m), .int .u64 (mi o)] w fun e w' => e = .returned (.int .u64 (mi (m &&& ~~~ o))) ∧ Upd no w w' := by
  refine u24 ?_
  rw [t24]
  refine ⟨WP_loop okProg (M := M24) (σ := Nat × Option Addr × Nat) (fun s => e24_1 (mi m) (mi o) s.2.1 (upto (fun d => hs m d && !hs o d) s.1).length s.2.2 s.1)
    (fun s w' => s.1 ≤ 64 ∧ Loc w w' 3 s.2.1 s.2.2 (upto (fun d => hs m d && !hs o d) s.1)) (fun s _ => 64 - s.1) (0, none, 0) ⟨rfl, rfl, rfl, rfl, trivial⟩ ⟨by simp, Loc.nil (Upd.refl _ _) _⟩ ?_⟩
  rintro ⟨i, p, c⟩ w1 ⟨h1, hL⟩
  simp only at h1 hL ⊢
  rw [t24_1]
  have hs1 := upto_succ (fun d => hs m d && !hs o d) i
  have hb := upto_length (fun d => hs m d && !hs o d) i
  refine ⟨fun hlt => ⟨(rHas_ok m i w1).mono ?_⟩, fun hge => CutD.mk ?_⟩
  · have hi : i < 64 := by simp at hlt; omega
    rintro e w' ⟨rfl, rfl⟩
    refine ⟨_, rfl, fun hm => ⟨(rHas_ok o i w').mono ?_⟩, fun hm => ?_⟩
    · rintro e w' ⟨rfl, rfl⟩
      refine ⟨_, rfl, fun ho => ⟨fun w2 hN => ?_⟩, fun ho => ?_⟩
      · obtain ⟨p', c', w3, hr, hL'⟩ := hL.push elI (by omega) hN 23
        rw [if_pos (by simp [hm]; simpa using ho)] at hs1
        exact ⟨p', _, c', w3, hr, (i + 1, p', c'), ⟨rfl, rfl, by rw [hs1]; rfl, by rw [w64 (by omega)]; rfl, trivial⟩, ⟨by simp only; omega, by rw [hs1]; exact hL'⟩, by simp only; omega⟩
      · rw [if_neg (by simp [hm]; simpa using ho)] at hs1
        exact ⟨(i + 1, p, c), ⟨rfl, rfl, by rw [hs1]; rfl, by rw [w64 (by omega)]; rfl, trivial⟩, ⟨by simp only; omega, by rw [hs1]; exact hL⟩, by simp only; omega⟩
    · rw [if_neg (by simp [hm])] at hs1
      exact ⟨(i + 1, p, c), ⟨rfl, rfl, by rw [hs1]; rfl, by rw [w64 (by omega)]; rfl, trivial⟩, ⟨by simp only; omega, by rw [hs1]; exact hL⟩, by simp only; omega⟩
  · have : i = 64 := by simp at hge; omega
    subst this
    rw [t24_0]
    refine ⟨(rOf_ok hL.S.cells (by omega)).mono ?_⟩
    rintro e w' ⟨rfl, rfl⟩
    refine ⟨_, rfl, ?_, hL.U⟩
    have : ofL (upto (fun d => hs m d && !hs o d) 64) = m &&& ~~~ o := ext_hs fun d h0 h64 => by rw [hs_ofL_upto, hs_not]; simp [h0, h64]
    rw [this]
theorem mOne_ok (c : Int) (w : World) : Calls Tryd.prog 37 #[.int .i64 c] w fun e w' => e = .returned (.int .u64 (mi (bt c))) ∧ w' = w := by
  refine u37 ?_
  rw [t37]
  refine ⟨fun h0 => ⟨fun h1 => ⟨?_, rfl⟩, fun h1 => ⟨by simpa using h0, ?_, rfl⟩⟩, fun h0 => ⟨?_, rfl⟩⟩
  · rw [bt_out (by simp at h1; omega)]; rfl
  · rw [shl_one (by simp at h0 h1; omega)]
  · rw [bt_out (by simp at h0; omega)]; rfl
theorem mHas_ok (m : BV) (c : Int) (w : World) : Calls Tryd.prog 17 #[.int .u64 (mi m), .int .i64 c] w fun e w' => e = .returned (.bool (hs m c)) ∧ w' = w := by
  refine u17 ?_
  rw [t17]
  refine ⟨(mOne_ok c w).mono ?_⟩
  rintro e w' ⟨rfl, rfl⟩
  exact ⟨_, rfl, by rw [bits_and, mi_bne0, and_bt], rfl⟩
theorem mNot_ok (m o : BV) (w : World) : Calls Tryd.prog 23 #[.int .u64 (mi m), .int .u64 (mi o)] w fun e w' => e = .returned (.int .u64 (mi (m &&& ~~~ o))) ∧ w' = w := by
  refine u23 ?_
  rw [t23, bits_not]
  exact ⟨rfl, rfl⟩
theorem mAnd_ok (m o : BV) (w : World) : Calls Tryd.prog 19 #[.int .u64 (mi m), .int .u64 (mi o)] w fun e w' => e = .returned (.int .u64 (mi (m &&& o))) ∧ w' = w := by
  refine u19 ?_
  rw [t19, bits_and]
  exact ⟨rfl, rfl⟩
theorem mOr_ok (m o : BV) (w : World) : Calls Tryd.prog 21 #[.int .u64 (mi m), .int .u64 (mi o)] w fun e w' => e = .returned (.int .u64 (mi (m ||| o))) ∧ w' = w := by
  refine u21 ?_
  rw [t21, bits_or]
  exact ⟨rfl, rfl⟩
theorem mLess_ok (m : BV) (c : Int) (w : World) : Calls Tryd.prog 15 #[.int .u64 (mi m), .int .i64 c] w fun e w' => e = .returned (.int .u64 (mi (ls m c))) ∧ w' = w := by
  refine u15 ?_
  rw [t15]
  refine ⟨(mOne_ok c w).mono ?_⟩
  rintro e w' ⟨rfl, rfl⟩
  exact ⟨_, rfl, by rw [bits_not, ls], rfl⟩
theorem mWith_ok (m : BV) {w : World} {p : Option Addr} {l : List Int} {c : Nat} (h : Cells w p (l.map (Value.int .i64))) (hb : l.length ≤ 140737488355328) :
    Calls Tryd.prog 14 #[.int .u64 (mi m), .slice p l.length c] w fun e w' => e = .returned (.int .u64 (mi (l.foldl wi m))) ∧ w' = w := by
  refine u14 ?_
  rw [t14]
  refine ⟨WP_loop okProg (M := M14) (σ := Nat) (fun i => e14_1 (mi ((l.take i).foldl wi m)) p l.length c l.length i) (fun i w' => i ≤ l.length ∧ w' = w) (fun i _ => l.length - i) 0 ⟨rfl, rfl, rfl, rfl, trivial⟩ ⟨by omega, rfl⟩ ?_⟩
  rintro i w' ⟨h1, rfl⟩
  rw [t14_1]
  refine ⟨fun hlt => ?_, fun hge => ⟨?_, rfl⟩⟩
  · have hi : i < l.length := by simpa using hlt
    obtain ⟨a, rfl, hc⟩ := h.at1 hi
    refine ⟨⟨by omega, by omega⟩, a, rfl, l[i], by simpa using hc, ⟨(mOne_ok _ w').mono ?_⟩⟩
    rintro e w' ⟨rfl, rfl⟩
    exact ⟨_, rfl, i + 1, ⟨by rw [foldl_take hi, bits_or, wi]; rfl, rfl, rfl, by rw [w64 (by omega)]; rfl, trivial⟩, ⟨by omega, rfl⟩, by omega⟩
  · have : i = l.length := by simp at hge; omega
    subst this
    rw [List.take_length]
theorem mUpto_ok (n : Int) (w : World) : Calls Tryd.prog 12 #[.int .i64 n] w fun e w' => e = .returned (.int .u64 (mi (upM n))) ∧ w' = w := by
  refine u12 ?_
  rw [t12]
  refine ⟨fun h0 => ⟨?_, rfl⟩, fun h0 => ⟨fun h1 => ⟨?_, rfl⟩, fun h1 => ⟨(mOne_ok n w).mono ?_⟩⟩⟩
  · have h0 : n ≤ 0 := by simpa using h0
    rw [mi_upM, show min n.toNat 64 = 0 by omega]; rfl
  · have h1 : 64 ≤ n := by simpa using h1
    rw [mi_upM, show min n.toNat 64 = 64 by omega]; rfl
  · have h0 : ¬ n ≤ 0 := by simpa using h0
    have h1 : ¬ 64 ≤ n := by simpa using h1
    rintro e w' ⟨rfl, rfl⟩
    refine ⟨_, rfl, ?_, rfl⟩
    have := mi_nonneg (upM n)
    have := mi_lt (upM n)
    have e1 : mi (bt n) - 1 = mi (upM n) := by rw [mi_bt (by omega), mi_upM, show min n.toNat 64 = n.toNat by omega]
    rw [e1, wrapu (by omega)]
theorem rUpto_ok (n : Int) (w : World) : Calls Tryd.prog 13 #[.int .i64 n] w fun e w' => e = .returned (.int .u64 (mi (upM n))) ∧ w' = w := by
  refine u13 ?_
  rw [t13]
  refine ⟨WP_loop okProg (M := M13) (σ := Nat) (fun i => e13_1 n (mi (upM i)) i) (fun i w' => i ≤ 64 ∧ ((i : Int) ≤ n ∨ i = 0) ∧ w' = w) (fun i _ => 64 - i) 0 ⟨rfl, rfl, rfl, trivial⟩ ⟨by omega, .inr rfl, rfl⟩ ?_⟩
  rintro i w' ⟨h1, h2, rfl⟩
  rw [t13_1]
  refine ⟨fun g1 => ⟨fun g2 => ⟨(rWith_ok _ _ w').mono ?_⟩, fun g2 => ⟨?_, rfl⟩⟩, fun g1 => ⟨?_, rfl⟩⟩
  · have g1 : (i : Int) < n := by simpa using g1
    have g2 : i < 64 := by simp at g2; omega
    rintro e w' ⟨rfl, rfl⟩
    refine ⟨_, rfl, i + 1, ⟨rfl, by rw [upM_succ i g2]; rfl, by rw [w64 (by omega)]; rfl, trivial⟩, ⟨by omega, .inl (by omega), rfl⟩, by omega⟩
  · have g1 : (i : Int) < n := by simpa using g1
    have g2 : i = 64 := by simp at g2; omega
    have : upM (i : Int) = upM n := ext_hs fun d _ _ => by
      rw [hs_upM, hs_upM, Bool.eq_iff_iff]
      simp only [Bool.and_eq_true, decide_eq_true_iff]
      omega
    rw [this]
  · have g1 : n ≤ (i : Int) := by simpa using g1
    have : upM (i : Int) = upM n := ext_hs fun d _ _ => by
      rw [hs_upM, hs_upM, Bool.eq_iff_iff]
      simp only [Bool.and_eq_true, decide_eq_true_iff]
      omega
    rw [this]
theorem mWithin_ok (m o : BV) (w : World) : Calls Tryd.prog 25 #[.int .u64 (mi m), .int .u64 (mi o)] w fun e w' => e = .returned (.bool ((m &&& ~~~ o) == 0)) ∧ w' = w := by
  refine u25 ?_
  rw [t25, bits_not, mi_beq0]
  exact ⟨rfl, rfl⟩
theorem rAnd_ok (m o : BV) (w : World) : Calls Tryd.prog 20 #[.int .u64 (mi m), .int .u64 (mi o)] w fun e w' => e = .returned (.int .u64 (mi (m &&& o))) ∧ Upd no w w' := by
  refine u20 ?_
  rw [t20]
  refine ⟨WP_loop okProg (M := M20) (σ := Nat × Option Addr × Nat) (fun s => e20_1 (mi m) (mi o) s.2.1 (upto (fun d => hs m d && hs o d) s.1).length s.2.2 s.1)
    (fun s w' => s.1 ≤ 64 ∧ Loc w w' 3 s.2.1 s.2.2 (upto (fun d => hs m d && hs o d) s.1)) (fun s _ => 64 - s.1) (0, none, 0) ⟨rfl, rfl, rfl, rfl, trivial⟩ ⟨by simp, Loc.nil (Upd.refl _ _) _⟩ ?_⟩
  rintro ⟨i, p, c⟩ w1 ⟨h1, hL⟩
  simp only at h1 hL ⊢
  rw [t20_1]
  have hs1 := upto_succ (fun d => hs m d && hs o d) i
  have hb := upto_length (fun d => hs m d && hs o d) i
  refine ⟨fun hlt => ⟨(rHas_ok m i w1).mono ?_⟩, fun hge => CutD.mk ?_⟩
  · have hi : i < 64 := by simp at hlt; omega
    rintro e w' ⟨rfl, rfl⟩
    refine ⟨_, rfl, fun hm => ⟨(rHas_ok o i w').mono ?_⟩, fun hm => ?_⟩
    · rintro e w' ⟨rfl, rfl⟩
      refine ⟨_, rfl, fun ho => ⟨fun w2 hN => ?_⟩, fun ho => ?_⟩
      · obtain ⟨p', c', w3, hr, hL'⟩ := hL.push elI (by omega) hN 23
        rw [if_pos (by simp [hm]; simpa using ho)] at hs1
        exact ⟨p', _, c', w3, hr, (i + 1, p', c'), ⟨rfl, rfl, by rw [hs1]; rfl, by rw [w64 (by omega)]; rfl, trivial⟩, ⟨by simp only; omega, by rw [hs1]; exact hL'⟩, by simp only; omega⟩
      · rw [if_neg (by simp [hm]; simpa using ho)] at hs1
        exact ⟨(i + 1, p, c), ⟨rfl, rfl, by rw [hs1]; rfl, by rw [w64 (by omega)]; rfl, trivial⟩, ⟨by simp only; omega, by rw [hs1]; exact hL⟩, by simp only; omega⟩
    · rw [if_neg (by simp [hm])] at hs1
      exact ⟨(i + 1, p, c), ⟨rfl, rfl, by rw [hs1]; rfl, by rw [w64 (by omega)]; rfl, trivial⟩, ⟨by simp only; omega, by rw [hs1]; exact hL⟩, by simp only; omega⟩
  · have : i = 64 := by simp at hge; omega
    subst this
    rw [t20_0]
    refine ⟨(rOf_ok hL.S.cells (by omega)).mono ?_⟩
    rintro e w' ⟨rfl, rfl⟩
    refine ⟨_, rfl, ?_, hL.U⟩
    have : ofL (upto (fun d => hs m d && hs o d) 64) = m &&& o := ext_hs fun d h0 h64 => by rw [hs_ofL_upto, hs_and]; simp [h0, h64]
    rw [this]
theorem rOr_ok (m o : BV) (w : World) : Calls Tryd.prog 22 #[.int .u64 (mi m), .int .u64 (mi o)] w fun e w' => e = .returned (.int .u64 (mi (m ||| o))) ∧ Upd no w w' := by
  refine u22 ?_
  rw [t22]
  refine ⟨WP_loop okProg (M := M22) (σ := Nat × Option Addr × Nat) (fun s => e22_1 (mi m) (mi o) s.2.1 (upto (fun d => hs m d || hs o d) s.1).length s.2.2 s.1)
    (fun s w' => s.1 ≤ 64 ∧ Loc w w' 3 s.2.1 s.2.2 (upto (fun d => hs m d || hs o d) s.1)) (fun s _ => 64 - s.1) (0, none, 0) ⟨rfl, rfl, rfl, rfl, trivial⟩ ⟨by simp, Loc.nil (Upd.refl _ _) _⟩ ?_⟩
  rintro ⟨i, p, c⟩ w1 ⟨h1, hL⟩
  simp only at h1 hL ⊢
  rw [t22_1]
  have hs1 := upto_succ (fun d => hs m d || hs o d) i
  have hb := upto_length (fun d => hs m d || hs o d) i
  refine ⟨fun hlt => ⟨(rHas_ok m i w1).mono ?_⟩, fun hge => CutD.mk ?_⟩
  · have hi : i < 64 := by simp at hlt; omega
    have go : ∀ w', Loc w w' 3 p c (upto (fun d => hs m d || hs o d) i) → hs m i = true ∨ hs o i = true → New w' [.int .i64 (i : Int)] 3 fun p1 w'' => ∃ p2 n2 c2 w3, (Builtin.append_ #[23, 23] 23 #[.slice p (upto (fun d => hs m d || hs o d) i).length c, .slice (some p1) 1 1]).run Tryd.prog w'' = .ok (.slice p2 n2 c2) w3 ∧
        ∃ s' : Nat × Option Addr × Nat, CoversL (e22_1 (mi m) (mi o) p2 n2 c2 (IntKind.wrap .i64 ((i : Int) + 1))) (e22_1 (mi m) (mi o) s'.2.1 (upto (fun d => hs m d || hs o d) s'.1).length s'.2.2 s'.1) ∧ (s'.1 ≤ 64 ∧ Loc w w3 3 s'.2.1 s'.2.2 (upto (fun d => hs m d || hs o d) s'.1)) ∧ 64 - s'.1 < 64 - i := fun w' hL ho => ⟨fun w2 hN => by
      obtain ⟨p', c', w3, hr, hL'⟩ := hL.push elI (by omega) hN 23
      rw [if_pos (by simpa using ho)] at hs1
      exact ⟨p', _, c', w3, hr, (i + 1, p', c'), ⟨rfl, rfl, by rw [hs1]; rfl, by rw [w64 (by omega)]; rfl, trivial⟩, ⟨by simp only; omega, by rw [hs1]; exact hL'⟩, by simp only; omega⟩⟩
    rintro e w' ⟨rfl, rfl⟩
    refine ⟨_, rfl, fun hm => ?_, fun hm => ?_⟩
    · first | exact go _ hL (.inl hm) | (refine ⟨(rHas_ok o i w').mono ?_⟩; rintro e w' ⟨rfl, rfl⟩; refine ⟨_, rfl, fun ho => go _ hL (.inr ho), fun ho => ?_⟩; rw [if_neg (by simp [hm, ho])] at hs1; exact ⟨(i + 1, p, c), ⟨rfl, rfl, by rw [hs1]; rfl, by rw [w64 (by omega)]; rfl, trivial⟩, ⟨by simp only; omega, by rw [hs1]; exact hL⟩, by simp only; omega⟩)
    · first | exact go _ hL (.inl hm) | (refine ⟨(rHas_ok o i w').mono ?_⟩; rintro e w' ⟨rfl, rfl⟩; refine ⟨_, rfl, fun ho => go _ hL (.inr ho), fun ho => ?_⟩; rw [if_neg (by simp [hm, ho])] at hs1; exact ⟨(i + 1, p, c), ⟨rfl, rfl, by rw [hs1]; rfl, by rw [w64 (by omega)]; rfl, trivial⟩, ⟨by simp only; omega, by rw [hs1]; exact hL⟩, by simp only; omega⟩)
  · have : i = 64 := by simp at hge; omega
    subst this
    rw [t22_0]
    refine ⟨(rOf_ok hL.S.cells (by omega)).mono ?_⟩
    rintro e w' ⟨rfl, rfl⟩
    refine ⟨_, rfl, ?_, hL.U⟩
    have : ofL (upto (fun d => hs m d || hs o d) 64) = m ||| o := ext_hs fun d h0 h64 => by rw [hs_ofL_upto, hs_or]; simp [h0, h64]
    rw [this]
theorem mOf_ok {w : World} {p : Option Addr} {l : List Int} {c : Nat} (h : Cells w p (l.map (Value.int .i64))) (hb : l.length ≤ 140737488355328) :
    Calls Tryd.prog 10 #[.slice p l.length c] w fun e w' => e = .returned (.int .u64 (mi (ofL l))) ∧ w' = w := by
  refine u10 ?_
  rw [t10]
  refine ⟨(mWith_ok 0 h hb).mono ?_⟩
  rintro e w' ⟨rfl, rfl⟩
  exact ⟨_, rfl, rfl, rfl⟩
end Go.Dav
