/- What the functions on the cores of a mask come to: how many, the lowest, the greatest, the next one, all. -/
import Derived.Test.YticbeaaghiodlaaDoorMsk12
import Derived.Test.YticbeaaghiodlaaDoorLst12
import Derived.Test.YticbeaaghiodlaaDoorPop
import Derived.Test.YticbeaaghiodlaaDoorByt
import Derived.Lib.LaidTab
set_option linter.unusedSimpArgs false
set_option linter.unusedVariables false
namespace Go.Dav
open Go.Proofs

/-- The library's table is as its text lays it. -/
def Tab (w : World) : Prop := Cells w (some ⟨0, 0, none⟩) (dbt.map (fun (z : Nat) => Value.int .u8 (z : Int)))
theorem Tab.no {w w' : World} (h : Tab w) (k : Upd no w w') : Tab w' := Cells.no h k
theorem tabG : Tryd.prog.globalNamed "math/bits.deBruijn64tab" = some 0 := by kernel_rfl
theorem tabT : (Tryd.prog.globals[0]?).map (·.type) = some 60 := by kernel_rfl
theorem tabU : Tryd.prog.underlying 60 = some (.array 64 5) := by kernel_rfl
theorem tabE : Tryd.prog.underlying 5 = some (.int .u8) := by kernel_rfl
def dbz : List Int := dbt.map (fun (z : Nat) => (z : Int))
theorem tab_ok {W : World} (h : laidMet Tryd.prog [("math/bits.deBruijn64tab", Lib.tabData .u8 dbz)] W) : Tab W := by
  have hT := Lib.tabIs_of_head tabG tabT tabU tabE (by kernel_rfl) (by kernel_rfl) h
  intro j v hj
  refine ⟨_, rfl, ?_⟩
  rw [add_lit, Nat.zero_add]
  rw [List.getElem?_map] at hj
  obtain ⟨z, hz, rfl⟩ := Option.map_eq_some_iff.1 hj
  have hl : j < dbt.length := (List.getElem?_eq_some_iff.1 hz).1
  rw [hT.cell tabG j (by simpa [dbz] using hl)]
  have e : dbz.getD j 0 = (z : Int) := by simp [dbz, List.getD_eq_getElem?_getD, hz]
  rw [e]

theorem tz_ok (m : BV) {w : World} (hT : Tab w) : Calls Tryd.prog 29 #[.int .u64 (mi m)] w fun e w' => e = .returned (.int .i64 (tz m)) ∧ w' = w := by
  refine u29 ?_
  rw [t29]
  refine ⟨fun g => ?_, fun g => ⟨by decide, ?_⟩⟩
  · rw [mi_beq0] at g
    have : m = 0 := by simpa using g
    subst this
    exact ⟨by rw [tz_zero], rfl⟩
  · rw [mi_beq0] at g
    have hm : m ≠ 0 := by simpa using g
    obtain ⟨k, hk, h1, h2⟩ := low_ex hm
    rw [neg_wrap, bits_and, low_neg hk h1 h2]
    obtain ⟨d1, d2, d3⟩ := dbp_ok k hk
    unfold dbp at d1 d2 d3
    rw [tz_low hk h1 h2]
    generalize shrOp .u64 (IntKind.wrap .u64 (mi (bt k) * 285870213051353865)) 58 = ix at *
    have hl : ix.toNat < dbt.length := (List.getElem?_eq_some_iff.1 d3).1
    obtain ⟨a, ha, hc⟩ := hT.at1 hl
    cases ha
    have : dbt[ix.toNat] = k := by rw [List.getElem?_eq_getElem hl] at d3; exact Option.some.inj d3
    rw [this] at hc
    exact ⟨⟨d1, d2⟩, _, hc, by rw [w64 (by omega)], rfl⟩
/-- The first, the last one of a mask; the one behind another one. -/
def firstE (m : BV) : Int × Int := match cs m with | [] => (0, 12) | a :: _ => (a, 0)
def lastE (m : BV) : Int × Int := match (cs m).getLast? with | none => (0, 12) | some a => (a, 0)
def nextE (m : BV) (c : Int) : Int × Int := match (cs m).find? (fun d => decide (d > c)) with | some d => (d, 0) | none => firstE m
theorem firstE_ne {m : BV} (h : m ≠ 0) : firstE m = (tz m, 0) := by unfold firstE; rw [cs_cons h]
theorem firstE_zero : firstE 0 = (0, 12) := by unfold firstE; rw [cs_zero]
theorem mFirst_ok (m : BV) {w : World} (hT : Tab w) : Calls Tryd.prog 24 #[.int .u64 (mi m)] w fun e w' => e = .returned (.tuple #[.int .i64 (firstE m).1, .int .i64 (firstE m).2]) ∧ w' = w := by
  refine u24 ?_
  rw [t24]
  refine ⟨fun g => ?_, fun g => ⟨(tz_ok m hT).mono ?_⟩⟩
  · rw [mi_beq0] at g
    have : m = 0 := by simpa using g
    subst this
    exact ⟨by rw [firstE_zero], rfl⟩
  · rw [mi_beq0] at g
    rintro e w' ⟨rfl, rfl⟩
    exact ⟨_, rfl, by rw [firstE_ne (by simpa using g)], rfl⟩
theorem cs_above (m : BV) (c : Int) : cs (m &&& ~~~ upM (c + 1)) = (cs m).filter (fun d => decide (d > c)) := by
  unfold cs upto
  rw [List.filter_filter]
  apply List.filter_congr
  intro d hd
  obtain ⟨i, hi, rfl⟩ := List.mem_map.1 hd
  rw [List.mem_range] at hi
  rw [hs_not, hs_upM, decide_eq_true (show 0 ≤ (i : Int) ∧ (i : Int) < 64 by omega), Bool.true_and]
  by_cases hc : (i : Int) > c
  · simp [hc, show ¬ ((i : Int) < c + 1) by omega]
  · simp [hc, show (i : Int) < c + 1 by omega]
theorem next_above {m : BV} {c : Int} (h : m &&& ~~~ upM (c + 1) ≠ 0) : firstE (m &&& ~~~ upM (c + 1)) = nextE m c := by
  unfold nextE
  rw [firstE_ne h]
  have e : ((cs m).filter (fun d => decide (d > c))).head? = some (tz (m &&& ~~~ upM (c + 1))) := by rw [← cs_above, cs_cons h]; rfl
  rw [List.head?_filter] at e
  rw [e]
theorem next_wrap {m : BV} {c : Int} (h : m &&& ~~~ upM (c + 1) = 0) : nextE m c = firstE m := by
  unfold nextE
  have e : (cs m).filter (fun d => decide (d > c)) = [] := by rw [← cs_above, h, cs_zero]
  rw [List.filter_eq_nil_iff] at e
  rw [List.find?_eq_none.2 e]
theorem next_low {m : BV} {c : Int} (h : c < 0) : nextE m c = firstE m := by
  unfold nextE firstE
  cases hc : cs m with
  | nil => rfl
  | cons a l =>
    have : hs m a = true := mem_cs.1 (by rw [hc]; simp)
    have := hs_in this
    have e : decide (a > c) = true := by simp; omega
    simp [e]
theorem next_high {m : BV} {c : Int} (h : 63 ≤ c) : nextE m c = firstE m := by
  unfold nextE
  rw [List.find?_eq_none.2]
  intro d hd
  have := hs_in (mem_cs.1 hd)
  simp; omega
theorem mNext_ok (m : BV) (c : Int) {w : World} (hT : Tab w) : Calls Tryd.prog 20 #[.int .u64 (mi m), .int .i64 c] w fun e w' => e = .returned (.tuple #[.int .i64 (nextE m c).1, .int .i64 (nextE m c).2]) ∧ w' = w := by
  refine u20 ?_
  rw [t20]
  refine ⟨fun g => ⟨fun g2 => ⟨(mFirst_ok m hT).mono ?_⟩, fun g2 => ?_⟩, fun g => ⟨(mFirst_ok m hT).mono ?_⟩⟩
  · rintro e w' ⟨rfl, rfl⟩
    exact ⟨_, _, rfl, by rw [next_high (of_decide_eq_true g2)], rfl⟩
  · have h1 : ¬ c < 0 := of_decide_eq_false g
    have h2 : ¬ c ≥ 63 := of_decide_eq_false g2
    rw [w64 (by omega)]
    refine ⟨(mUpto_ok (c + 1) w).mono ?_⟩
    rintro e w' ⟨rfl, rfl⟩
    refine ⟨_, rfl, ?_⟩
    rw [bits_not, mi_bne0]
    refine ⟨fun g3 => ⟨(mFirst_ok _ hT).mono ?_⟩, fun g3 => ⟨(mFirst_ok m hT).mono ?_⟩⟩
    · rintro e w' ⟨rfl, rfl⟩
      exact ⟨_, _, rfl, by rw [next_above (by simpa using g3)], rfl⟩
    · rintro e w' ⟨rfl, rfl⟩
      exact ⟨_, _, rfl, by rw [next_wrap (by simpa using g3)], rfl⟩
  · rintro e w' ⟨rfl, rfl⟩
    exact ⟨_, _, rfl, by rw [next_low (of_decide_eq_true g)], rfl⟩
theorem rList_ok (m : BV) (w : World) : Calls Tryd.prog 26 #[.int .u64 (mi m)] w fun e w' => ∃ p c, e = .returned (.slice p (cs m).length c) ∧ Loc w w' 3 p c (cs m) := by
  refine u26 ?_
  rw [t26]
  refine ⟨WP_loop okProg (M := M26) (σ := Nat × Option Addr × Nat) (fun s => e26_1 (mi m) s.2.1 (upto (hs m) s.1).length s.2.2 s.1)
    (fun s w' => s.1 ≤ 64 ∧ Loc w w' 3 s.2.1 s.2.2 (upto (hs m) s.1)) (fun s _ => 64 - s.1) (0, none, 0) ⟨rfl, rfl, rfl, trivial⟩ ⟨by simp, Loc.nil (Upd.refl _ _) _⟩ ?_⟩
  rintro ⟨i, p, c⟩ w1 ⟨h1, hL⟩
  simp only at h1 hL ⊢
  rw [t26_1]
  have hs1 := upto_succ (hs m) i
  have hb := upto_length (hs m) i
  refine ⟨fun hlt => ⟨(rHas_ok m i w1).mono ?_⟩, fun hge => ?_⟩
  · have hi : i < 64 := by simp at hlt; omega
    rintro e w' ⟨rfl, rfl⟩
    refine ⟨_, rfl, fun hm => ⟨fun w2 hN => ?_⟩, fun hm => ?_⟩
    · obtain ⟨p', c', w3, hr, hL'⟩ := hL.push elI (by omega) hN 52
      rw [if_pos hm] at hs1
      exact ⟨p', _, c', w3, hr, (i + 1, p', c'), ⟨rfl, by rw [hs1]; rfl, by rw [w64 (by omega)]; rfl, trivial⟩, ⟨by simp only; omega, by rw [hs1]; exact hL'⟩, by simp only; omega⟩
    · rw [if_neg (by simp [hm])] at hs1
      exact ⟨(i + 1, p, c), ⟨rfl, by rw [hs1]; rfl, by rw [w64 (by omega)]; rfl, trivial⟩, ⟨by simp only; omega, by rw [hs1]; exact hL⟩, by simp only; omega⟩
  · have : i = 64 := by simp at hge; omega
    subst this
    exact ⟨p, c, rfl, hL⟩
theorem rFirst_ok (m : BV) (w : World) : Calls Tryd.prog 27 #[.int .u64 (mi m)] w fun e w' => e = .returned (.tuple #[.int .i64 (firstE m).1, .int .i64 (firstE m).2]) ∧ Upd no w w' := by
  refine u27 ?_
  rw [t27]
  refine ⟨(rList_ok m w).mono ?_⟩
  rintro e w' ⟨p, c, rfl, hL⟩
  unfold firstE
  cases hc : cs m with
  | nil => exact ⟨_, _, _, rfl, fun _ => ⟨rfl, hL.U⟩, fun g => by simp at g⟩
  | cons a l =>
    rw [hc] at hL
    obtain ⟨ad, ha, hv⟩ := hL.S.cells.at1 (l := a :: l) (i := 0) (by simp)
    exact ⟨_, _, _, rfl, fun g => absurd (eq_of_beq g) (by simp only [List.length_cons]; omega), fun _ => ⟨⟨by omega, by simp only [List.length_cons]; omega⟩, ad, ha, a, hv, rfl, hL.U⟩⟩
theorem rNext_ok (m : BV) (c : Int) (w : World) : Calls Tryd.prog 21 #[.int .u64 (mi m), .int .i64 c] w fun e w' => e = .returned (.tuple #[.int .i64 (nextE m c).1, .int .i64 (nextE m c).2]) ∧ Upd no w w' := by
  refine u21 ?_
  rw [t21]
  refine ⟨(rList_ok m w).mono ?_⟩
  rintro e w' ⟨p, cp, rfl, hL⟩
  refine ⟨_, _, _, rfl, ⟨WP_loop okProg (M := M21) (σ := Nat) (fun i => e21_1 (mi m) c p (cs m).length cp (i : Int)) (fun i w1 => i ≤ (cs m).length ∧ ((cs m).take i).find? (fun d => decide (d > c)) = none ∧ w1 = w') (fun i _ => (cs m).length - i) 0 ⟨rfl, rfl, rfl, rfl, trivial⟩ ⟨by omega, by simp, rfl⟩ ?_⟩⟩
  rintro i w1 ⟨h1, h2, rfl⟩
  rw [t21_1]
  have hl := cs_len m
  refine ⟨fun g => ?_, fun g => CutD.mk ?_⟩
  · have hi : i < (cs m).length := by simpa using g
    obtain ⟨ad, ha, hv⟩ := hL.S.cells.at1 (l := cs m) hi
    refine ⟨⟨by omega, by omega⟩, ad, ha, _, hv, fun g2 => ⟨⟨by omega, by omega⟩, ad, ha, _, hv, ?_, hL.U⟩, fun g2 => ?_⟩
    · have e : (cs m).find? (fun d => decide (d > c)) = some (cs m)[i] := by
        conv => lhs; rw [← List.take_append_drop i (cs m)]
        rw [List.find?_append, h2, List.drop_eq_getElem_cons hi, List.find?_cons_of_pos (p := fun d => decide (d > c)) g2]
        rfl
      unfold nextE
      rw [e]
    · refine ⟨i + 1, ⟨rfl, rfl, rfl, by rw [w64 (by omega)]; rfl, trivial⟩, ⟨by omega, ?_, rfl⟩, by omega⟩
      rw [List.take_succ_eq_append_getElem hi, List.find?_append, h2]
      simp
      have := of_decide_eq_false g2
      omega
  · have : i = (cs m).length := by simp at g; omega
    subst this
    rw [List.take_length] at h2
    rw [t21_0]
    refine ⟨(rFirst_ok m w1).mono ?_⟩
    rintro e w2 ⟨rfl, hU⟩
    refine ⟨_, _, rfl, ?_, hL.U.and hU⟩
    unfold nextE
    rw [h2]
end Go.Dav
