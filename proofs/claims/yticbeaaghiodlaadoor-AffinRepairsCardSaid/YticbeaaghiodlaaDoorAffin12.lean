/- What the functions on which core a thing goes to come to. -/
import Derived.Test.YticbeaaghiodlaaDoorCnt12
import Derived.Test.YticbeaaghiodlaaDoorLoc
set_option linter.unusedSimpArgs false
set_option linter.unusedVariables false
namespace Go.Dav
open Go.Proofs

abbrev Itm := Int × BV × Int × Bool
def chE (want active : BV) (near : Int) : Int × Bool × Int :=
  if active = 0 then (0, false, 12) else
    if hs (if want &&& active = 0 then active else want &&& active) near then (near, want &&& active == 0, 0) else ((nextE (if want &&& active = 0 then active else want &&& active) near).1, want &&& active == 0, 0)
def wrongE (active : BV) (x : Itm) : Bool := !hs active x.2.2.1 || (!hs x.2.1 x.2.2.1 && !(x.2.1 &&& active == 0)) || (x.2.2.2 == hs x.2.1 x.2.2.1)
def fixE (active : BV) (x : Itm) : Itm := (x.1, x.2.1, (chE x.2.1 active x.2.2.1).1, (chE x.2.1 active x.2.2.1).2.1)
def repL (active : BV) (l : List Itm) : List Itm := if active = 0 then [] else (l.filter (wrongE active)).map (fixE active)
theorem repL_le (active : BV) (l : List Itm) : (repL active l).length ≤ l.length := by
  unfold repL
  split
  · simp
  · rw [List.length_map]; exact List.length_filter_le ..
theorem repL_take {active : BV} {l : List Itm} {i : Nat} (h : active ≠ 0) (hi : i < l.length) : repL active (l.take (i + 1)) = if wrongE active l[i] then repL active (l.take i) ++ [fixE active l[i]] else repL active (l.take i) := by
  unfold repL
  rw [if_neg h, if_neg h, List.take_succ_eq_append_getElem hi, List.filter_append, List.map_append]
  by_cases hw : wrongE active l[i] = true
  · rw [if_pos hw, List.filter_cons_of_pos hw]; rfl
  · rw [if_neg hw, List.filter_cons_of_neg hw]; simp
theorem nextE_ok {m : BV} (h : m ≠ 0) (c : Int) : (nextE m c).2 = 0 ∧ hs m (nextE m c).1 = true := by
  unfold nextE
  cases hf : (cs m).find? (fun d => decide (d > c)) with
  | some d => exact ⟨rfl, mem_cs.1 (List.mem_of_find?_eq_some hf)⟩
  | none => simp only [firstE_ne h]; exact ⟨trivial, tz_in h⟩
theorem from_ne {want active : BV} (h : active ≠ 0) : (if want &&& active = 0 then active else want &&& active) ≠ 0 := by split <;> assumption

theorem recIUIB_one (x : Itm) : ∀ u ∈ recIUIB x, u.oneCell' = true := by simp [recIUIB, Value.oneCell']
theorem elA : ElemT Tryd.prog 33 41 4 32 [.int .i64 0, .int .u64 0, .int .i64 0, .bool false] := ⟨by kernel_rfl, by kernel_rfl, rfl, by omega⟩
theorem elR : ElemT Tryd.prog 32 44 4 32 [.int .i64 0, .int .u64 0, .int .i64 0, .bool false] := ⟨by kernel_rfl, by kernel_rfl, rfl, by omega⟩

theorem choose_ok {w : World} (hT : Tab w) (want active : BV) (near : Int) : Calls Tryd.prog 6 #[.int .u64 (mi want), .int .u64 (mi active), .int .i64 near] w fun e w' => e = .returned (.tuple #[.int .i64 (chE want active near).1, .bool (chE want active near).2.1, .int .i64 (chE want active near).2.2]) ∧ w' = w := by
  refine u6 ?_
  rw [t6, mi_beq0]
  refine ⟨fun g => ?_, fun g => ⟨(mAnd_ok want active w).mono ?_⟩⟩
  · have g : active = 0 := by simpa using g
    exact ⟨by simp only [chE, g, if_true], rfl⟩
  · have g : active ≠ 0 := by simpa using g
    rintro e w1 ⟨rfl, rfl⟩
    have go : ∀ fr : BV, fr = (if want &&& active = 0 then active else want &&& active) → CutD Tryd.prog M6 c6_0 (e6_0 near (mi fr) (want &&& active == 0)) w1 (k6_0 fun e w' => e = .returned (.tuple #[.int .i64 (chE want active near).1, .bool (chE want active near).2.1, .int .i64 (chE want active near).2.2]) ∧ w' = w1) := by
      intro fr hfr
      refine CutD.mk ?_
      rw [t6_0]
      have hne : fr ≠ 0 := hfr ▸ from_ne g
      unfold chE
      rw [if_neg g, ← hfr]
      refine ⟨(mHas_ok fr near w1).mono ?_⟩
      rintro e w2 ⟨rfl, rfl⟩
      refine ⟨_, rfl, fun g2 => ?_, fun g2 => ⟨(mNext_ok fr near hT).mono ?_⟩⟩
      · rw [if_pos g2]; exact ⟨rfl, rfl⟩
      · rintro e w3 ⟨rfl, rfl⟩
        rw [if_neg (by rw [g2]; decide)]
        exact ⟨_, _, rfl, by rw [(nextE_ok hne near).1], rfl⟩
    refine ⟨_, rfl, fun g2 => ?_, fun g2 => ?_⟩
    · have g2' : (want &&& active == 0) = true := by rw [mi_beq0] at g2; exact g2
      rw [mi_beq0]
      exact go active (by rw [if_pos (eq_of_beq g2')])
    · have g2' : (want &&& active == 0) = false := by rw [mi_beq0] at g2; exact g2
      rw [mi_beq0]
      exact go _ (by rw [if_neg (ne_of_beq_false g2')])
theorem rChoose_ok (want active : BV) (near : Int) (w : World) : Calls Tryd.prog 7 #[.int .u64 (mi want), .int .u64 (mi active), .int .i64 near] w fun e w' => e = .returned (.tuple #[.int .i64 (chE want active near).1, .bool (chE want active near).2.1, .int .i64 (chE want active near).2.2]) ∧ Upd no w w' := by
  refine u7 ?_
  rw [t7, mi_beq0]
  refine ⟨fun g => ?_, fun g => ⟨(rAnd_ok want active w).mono ?_⟩⟩
  · have g : active = 0 := by simpa using g
    exact ⟨by simp only [chE, g, if_true], Upd.refl _ _⟩
  · have g : active ≠ 0 := by simpa using g
    rintro e w1 ⟨rfl, hU⟩
    have go : ∀ fr : BV, fr = (if want &&& active = 0 then active else want &&& active) → CutD Tryd.prog M7 c7_0 (e7_0 near (mi (want &&& active)) (mi fr)) w1 (k7_0 fun e w' => e = .returned (.tuple #[.int .i64 (chE want active near).1, .bool (chE want active near).2.1, .int .i64 (chE want active near).2.2]) ∧ Upd no w w') := by
      intro fr hfr
      refine CutD.mk ?_
      rw [t7_0]
      unfold chE
      rw [if_neg g, ← hfr]
      refine ⟨(rHas_ok fr near w1).mono ?_⟩
      rintro e w2 ⟨rfl, rfl⟩
      refine ⟨_, rfl, fun g2 => ?_, fun g2 => ⟨(rNext_ok fr near _).mono ?_⟩⟩
      · rw [if_pos g2, mi_beq0]; exact ⟨rfl, hU⟩
      · rintro e w3 ⟨rfl, hU3⟩
        rw [if_neg (by rw [g2]; decide), mi_beq0]
        exact ⟨_, _, rfl, rfl, hU.and hU3⟩
    refine ⟨_, rfl, fun g2 => ?_, fun g2 => ?_⟩
    · rw [mi_beq0] at g2
      exact go active (by rw [if_pos (eq_of_beq g2)])
    · rw [mi_beq0] at g2
      exact go _ (by rw [if_neg (ne_of_beq_false g2)])

theorem wrong_ok (active : BV) (x : Itm) (w : World) : Calls Tryd.prog 16 #[.int .u64 (mi active), .agg #[.int .i64 x.1, .int .u64 (mi x.2.1), .int .i64 x.2.2.1, .bool x.2.2.2]] w fun e w' => e = .returned (.bool (wrongE active x)) ∧ Upd no w w' := by
  refine u16 ?_
  rw [t16]
  refine ⟨fun w1 hN => ?_⟩
  have hB := hN.blk'
  have hU := hN.upd no
  unfold wrongE
  refine ⟨_, hB.cell rfl, _, hB.cell rfl, ⟨(mHas_ok _ _ _).mono ?_⟩⟩
  rintro e w2 ⟨rfl, rfl⟩
  refine ⟨_, rfl, _, hB.cell rfl, ⟨(mHas_ok _ _ _).mono ?_⟩⟩
  rintro e w3 ⟨rfl, rfl⟩
  refine ⟨_, rfl, fun g => ⟨by rw [g]; rfl, hU⟩, fun g => ⟨fun g2 => ⟨_, hB.cell rfl, ⟨(mAnd_ok _ _ _).mono ?_⟩⟩, fun g2 => ⟨_, hB.cell rfl, by rw [g, g2]; rfl, hU⟩⟩⟩
  rintro e w4 ⟨rfl, rfl⟩
  refine ⟨_, rfl, ?_⟩
  rw [mi_bne0]
  refine ⟨fun g3 => ⟨by rw [g, g2, g3]; rfl, hU⟩, fun g3 => ⟨_, hB.cell rfl, by rw [g, g2, g3]; rfl, hU⟩⟩
theorem rWrong_ok (active : BV) (x : Itm) (w : World) : Calls Tryd.prog 17 #[.int .u64 (mi active), .agg #[.int .i64 x.1, .int .u64 (mi x.2.1), .int .i64 x.2.2.1, .bool x.2.2.2]] w fun e w' => e = .returned (.bool (wrongE active x)) ∧ Upd no w w' := by
  refine u17 ?_
  rw [t17]
  refine ⟨fun w1 hN => ?_⟩
  have hB := hN.blk'
  have hU := hN.upd no
  unfold wrongE
  refine ⟨_, hB.cell rfl, _, hB.cell rfl, ⟨(rHas_ok _ _ _).mono ?_⟩⟩
  rintro e w2 ⟨rfl, rfl⟩
  refine ⟨_, rfl, _, hB.cell rfl, ⟨(rHas_ok _ _ _).mono ?_⟩⟩
  rintro e w3 ⟨rfl, rfl⟩
  refine ⟨_, rfl, fun g => ⟨fun g2 => ⟨_, hB.cell rfl, ⟨(rAnd_ok _ _ _).mono ?_⟩⟩, fun g2 => ⟨_, hB.cell rfl, by rw [g, g2]; rfl, hU⟩⟩, fun g => ⟨by rw [g]; rfl, hU⟩⟩
  rintro e w4 ⟨rfl, hU4⟩
  have hB4 := hB.upd hU4 id
  refine ⟨_, rfl, ?_⟩
  rw [mi_bne0]
  refine ⟨fun g3 => ⟨_, hB4.cell rfl, by rw [g, g2, g3]; rfl, hU.and hU4⟩, fun g3 => ⟨by rw [g, g2, g3]; rfl, hU.and hU4⟩⟩

theorem given_ok {w : World} {p : Option Addr} {l : List Itm} {c : Nat} (h : Cells w p (l.flatMap recIUIB)) (hl : l.length ≤ 1000) :
    Calls Tryd.prog 11 #[.slice p l.length c] w fun e w' => ∃ p' c', e = .returned (.slice p' l.length c') ∧ LocR recIUIB 4 w w' 41 p' c' l := by
  refine u11 ?_
  rw [t11]
  refine ⟨WP_loop okProg (M := M11) (σ := Nat × Option Addr × Nat) (fun s => e11_1 p l.length c s.2.1 (l.take s.1).length s.2.2 (s.1 : Int)) (fun s w' => s.1 ≤ l.length ∧ LocR recIUIB 4 w w' 41 s.2.1 s.2.2 (l.take s.1)) (fun s _ => l.length - s.1) (0, none, 0) ⟨rfl, rfl, rfl, trivial⟩ ⟨by simp, LocR.nil (Upd.refl _ _) _⟩ ?_⟩
  rintro ⟨i, p1, c1⟩ w1 ⟨k1, hL⟩
  simp only at k1 hL ⊢
  rw [t11_1]
  refine ⟨fun g w2 q1 q2 q3 q4 => ?_, fun g => ?_⟩
  · have hi : i < l.length := by simpa using g
    have hL := hL.upd (Upd.same no q1 q2 q3 q4)
    obtain ⟨a, ha, hc⟩ := (h.no hL.U).atk recIUIB_len (by decide) hi
    refine ⟨⟨by omega, by omega⟩, a, ha, _, hc 0 _ rfl, ⟨by omega, by omega⟩, a, ha, _, hc 1 _ rfl, ⟨by omega, by omega⟩, a, ha, _, hc 2 _ rfl, ⟨by omega, by omega⟩, a, ha, _, hc 3 _ rfl, ⟨fun w3 hN => ?_⟩⟩
    obtain ⟨p', c', w4, hr, hL'⟩ := hL.push elA recIUIB_len recIUIB_one (by simp; omega) (by simp; omega) (x := l[i]) rfl hN 33
    have e1 : l.take (i + 1) = l.take i ++ [l[i]] := List.take_succ_eq_append_getElem hi
    rw [← e1] at hr hL'
    exact ⟨p', _, c', w4, hr, (i + 1, p', c'), ⟨rfl, rfl, by rw [w64 (by omega)]; rfl, trivial⟩, ⟨by simp only; omega, hL'⟩, by simp only; omega⟩
  · have : i = l.length := by have := of_decide_eq_false g; omega
    subst this
    rw [List.take_length] at hL ⊢
    exact ⟨p1, c1, rfl, hL⟩
theorem taken_ok {w : World} {p : Option Addr} {l : List Itm} {c : Nat} (h : Cells w p (l.flatMap recIUIB)) (hl : l.length ≤ 1000) :
    Calls Tryd.prog 14 #[.slice p l.length c] w fun e w' => ∃ p' c', e = .returned (.slice p' l.length c') ∧ LocR recIUIB 4 w w' 44 p' c' l := by
  refine u14 ?_
  rw [t14]
  refine ⟨WP_loop okProg (M := M14) (σ := Nat × Option Addr × Nat) (fun s => e14_1 p l.length c s.2.1 (l.take s.1).length s.2.2 (s.1 : Int)) (fun s w' => s.1 ≤ l.length ∧ LocR recIUIB 4 w w' 44 s.2.1 s.2.2 (l.take s.1)) (fun s _ => l.length - s.1) (0, none, 0) ⟨rfl, rfl, rfl, trivial⟩ ⟨by simp, LocR.nil (Upd.refl _ _) _⟩ ?_⟩
  rintro ⟨i, p1, c1⟩ w1 ⟨k1, hL⟩
  simp only at k1 hL ⊢
  rw [t14_1]
  refine ⟨fun g w2 q1 q2 q3 q4 => ?_, fun g => ?_⟩
  · have hi : i < l.length := by simpa using g
    have hL := hL.upd (Upd.same no q1 q2 q3 q4)
    obtain ⟨a, ha, hc⟩ := (h.no hL.U).atk recIUIB_len (by decide) hi
    refine ⟨⟨by omega, by omega⟩, a, ha, _, hc 0 _ rfl, ⟨by omega, by omega⟩, a, ha, _, hc 1 _ rfl, ⟨by omega, by omega⟩, a, ha, _, hc 2 _ rfl, ⟨by omega, by omega⟩, a, ha, _, hc 3 _ rfl, ⟨fun w3 hN => ?_⟩⟩
    obtain ⟨p', c', w4, hr, hL'⟩ := hL.push elR recIUIB_len recIUIB_one (by simp; omega) (by simp; omega) (x := l[i]) rfl hN 32
    have e1 : l.take (i + 1) = l.take i ++ [l[i]] := List.take_succ_eq_append_getElem hi
    rw [← e1] at hr hL'
    exact ⟨p', _, c', w4, hr, (i + 1, p', c'), ⟨rfl, rfl, by rw [w64 (by omega)]; rfl, trivial⟩, ⟨by simp only; omega, hL'⟩, by simp only; omega⟩
  · have : i = l.length := by have := of_decide_eq_false g; omega
    subst this
    rw [List.take_length] at hL ⊢
    exact ⟨p1, c1, rfl, hL⟩

theorem repair_ok {w : World} (hT : Tab w) (active : BV) {p : Option Addr} {l : List Itm} {c : Nat} (h : Cells w p (l.flatMap recIUIB)) (hl : l.length ≤ 1000) :
    Calls Tryd.prog 12 #[.int .u64 (mi active), .slice p l.length c] w fun e w' => ∃ p' c', e = .returned (.slice p' (repL active l).length c') ∧ LocR recIUIB 4 w w' 41 p' c' (repL active l) := by
  refine u12 ?_
  rw [t12]
  have hr0 : repL active [] = [] := by unfold repL; split <;> rfl
  refine ⟨WP_loop okProg (M := M12) (σ := Nat × Option Addr × Nat) (fun s => e12_1 (mi active) s.2.1 (repL active (l.take s.1)).length s.2.2 p l.length c (l.length : Int) (s.1 : Int)) (fun s w' => s.1 ≤ l.length ∧ LocR recIUIB 4 w w' 41 s.2.1 s.2.2 (repL active (l.take s.1))) (fun s _ => l.length - s.1) (0, none, 0) ⟨rfl, by rw [List.take_zero, hr0]; rfl, rfl, rfl, rfl, trivial⟩ ⟨by simp, by rw [List.take_zero, hr0]; exact LocR.nil (Upd.refl _ _) _⟩ ?_⟩
  rintro ⟨i, p1, c1⟩ w1 ⟨k1, hL⟩
  simp only at k1 hL ⊢
  rw [t12_1]
  have hle := repL_le active (l.take i)
  rw [List.length_take] at hle
  refine ⟨fun g => ?_, fun g => ?_⟩
  · have hi : i < l.length := by simpa using g
    obtain ⟨a, ha, hc⟩ := (h.no hL.U).atk recIUIB_len (by decide) hi
    have hstep : ∀ w' p' c', LocR recIUIB 4 w w' 41 p' c' (repL active (l.take (i + 1))) → ∃ s : Nat × Option Addr × Nat, CoversL (e12_1 (mi active) p' (repL active (l.take (i + 1))).length c' p l.length c (l.length : Int) (IntKind.wrap .i64 ((i : Int) + 1))) (e12_1 (mi active) s.2.1 (repL active (l.take s.1)).length s.2.2 p l.length c (l.length : Int) (s.1 : Int)) ∧ (s.1 ≤ l.length ∧ LocR recIUIB 4 w w' 41 s.2.1 s.2.2 (repL active (l.take s.1))) ∧ l.length - s.1 < l.length - i := fun w' p' c' hL' =>
      ⟨(i + 1, p', c'), ⟨rfl, rfl, rfl, rfl, by rw [w64 (by omega)]; rfl, trivial⟩, ⟨by simp only; omega, hL'⟩, by simp only; omega⟩
    refine ⟨⟨by omega, by omega⟩, a, ha, _, hc 0 _ rfl, _, hc 1 _ rfl, _, hc 2 _ rfl, _, hc 3 _ rfl, ⟨fun w2 hN => hN.blk'.wr0 (by simp) fun w3 hW => ?_⟩⟩
    have hB : Blk w3 w1.heap.size (recIUIB l[i]) 41 := hW.blk'
    have hU3 : Upd no w1 w3 := (hN.upd no).trans hW.U (fun j hj e => absurd hj (by rw [e]; omega))
    rw [mi_beq0]
    refine ⟨fun g2 => ?_, fun g2 => ?_⟩
    · have hne : active ≠ 0 := by simpa using g2
      have hst := repL_take (l := l) hne hi
      refine ⟨_, hB.cell rfl, _, hB.cell rfl, _, hB.cell rfl, _, hB.cell rfl, ⟨(wrong_ok active l[i] w3).mono ?_⟩⟩
      rintro e w4 ⟨rfl, hU4⟩
      have hU14 := hU3.and hU4
      have hB4 := hB.upd hU4 id
      refine ⟨_, rfl, fun g3 => ?_, fun g3 => ?_⟩
      · have g3 : ¬ wrongE active l[i] = true := by simpa using g3
        rw [if_neg g3] at hst
        have hL' := hL.upd hU14
        rw [← hst] at hL' ⊢
        exact hstep w4 p1 c1 hL'
      · have g3 : wrongE active l[i] = true := by simpa using g3
        rw [if_pos g3] at hst
        refine ⟨_, hB4.cell rfl, _, hB4.cell rfl, ⟨(choose_ok (hT.no (hL.U.and hU14)) _ _ _).mono ?_⟩⟩
        rintro e w5 ⟨rfl, rfl⟩
        refine ⟨_, _, _, rfl, hB4.wr (by simp [recIUIB]) fun w6 hW6 => hW6.blk'.wr (by simp [recIUIB, setL]) fun w7 hW7 => ?_⟩
        have hB7 : Blk w7 w1.heap.size (recIUIB (fixE active l[i])) 41 := hW7.blk'
        have hU7 : Upd no w1 w7 := (hU14.trans hW6.U (fun j hj e => absurd hj (by rw [e]; omega))).trans hW7.U (fun j hj e => absurd hj (by rw [e]; omega))
        refine ⟨_, hB7.cell rfl, _, hB7.cell rfl, _, hB7.cell rfl, _, hB7.cell rfl, ⟨fun w8 hN8 => ?_⟩⟩
        obtain ⟨p', c', w9, hr, hL'⟩ := (hL.upd hU7).push elA recIUIB_len recIUIB_one (by omega) (by omega) (x := fixE active l[i]) rfl hN8 33
        rw [← hst] at hr hL'
        exact ⟨p', _, c', w9, hr, hstep w9 p' c' hL'⟩
    · have h0 : active = 0 := by simpa using g2
      have hst : repL active (l.take (i + 1)) = repL active (l.take i) := by unfold repL; rw [if_pos h0, if_pos h0]
      have hL' := hL.upd hU3
      rw [← hst] at hL' ⊢
      exact hstep w3 p1 c1 hL'
  · have : i = l.length := by have := of_decide_eq_false g; omega
    subst this
    rw [List.take_length] at hL ⊢
    exact ⟨p1, c1, rfl, hL⟩

theorem rRepair_ok {w : World} (active : BV) {p : Option Addr} {l : List Itm} {c : Nat} (h : Cells w p (l.flatMap recIUIB)) (hl : l.length ≤ 1000) :
    Calls Tryd.prog 15 #[.int .u64 (mi active), .slice p l.length c] w fun e w' => ∃ p' c', e = .returned (.slice p' (repL active l).length c') ∧ LocR recIUIB 4 w w' 44 p' c' (repL active l) := by
  refine u15 ?_
  rw [t15]
  have hr0 : repL active [] = [] := by unfold repL; split <;> rfl
  refine ⟨WP_loop okProg (M := M15) (σ := Nat × Option Addr × Nat) (fun s => e15_1 (mi active) p l.length c s.2.1 (repL active (l.take s.1)).length s.2.2 (s.1 : Int)) (fun s w' => s.1 ≤ l.length ∧ LocR recIUIB 4 w w' 44 s.2.1 s.2.2 (repL active (l.take s.1))) (fun s _ => l.length - s.1) (0, none, 0) ⟨rfl, rfl, by rw [List.take_zero, hr0]; rfl, rfl, trivial⟩ ⟨by simp, by rw [List.take_zero, hr0]; exact LocR.nil (Upd.refl _ _) _⟩ ?_⟩
  rintro ⟨i, p1, c1⟩ w1 ⟨k1, hL⟩
  simp only at k1 hL ⊢
  rw [t15_1]
  have hle := repL_le active (l.take i)
  rw [List.length_take] at hle
  refine ⟨fun g => ?_, fun g => ?_⟩
  · have hi : i < l.length := by simpa using g
    rw [mi_bne0]
    refine ⟨fun g2 => ?_, fun g2 => ?_⟩
    · have hne : active ≠ 0 := by simpa using g2
      have hst := repL_take (l := l) hne hi
      have hstep : ∀ w' p' c', LocR recIUIB 4 w w' 44 p' c' (repL active (l.take (i + 1))) → ∃ s : Nat × Option Addr × Nat, CoversL (e15_1 (mi active) p l.length c p' (repL active (l.take (i + 1))).length c' (IntKind.wrap .i64 ((i : Int) + 1))) (e15_1 (mi active) p l.length c s.2.1 (repL active (l.take s.1)).length s.2.2 (s.1 : Int)) ∧ (s.1 ≤ l.length ∧ LocR recIUIB 4 w w' 44 s.2.1 s.2.2 (repL active (l.take s.1))) ∧ l.length - s.1 < l.length - i := fun w' p' c' hL' =>
        ⟨(i + 1, p', c'), ⟨rfl, rfl, rfl, by rw [w64 (by omega)]; rfl, trivial⟩, ⟨by simp only; omega, hL'⟩, by simp only; omega⟩
      obtain ⟨a, ha, hc⟩ := (h.no hL.U).atk recIUIB_len (by decide) hi
      refine ⟨⟨by omega, by omega⟩, a, ha, _, hc 0 _ rfl, _, hc 1 _ rfl, _, hc 2 _ rfl, _, hc 3 _ rfl, ⟨(rWrong_ok active l[i] w1).mono ?_⟩⟩
      rintro e w2 ⟨rfl, hU2⟩
      refine ⟨_, rfl, fun g3 w3 q1 q2 q3 q4 => ?_, fun g3 => ?_⟩
      · rw [if_pos g3] at hst
        have hL3 := (hL.upd hU2).upd (Upd.same no q1 q2 q3 q4)
        obtain ⟨a, ha, hc⟩ := (h.no hL3.U).atk recIUIB_len (by decide) hi
        refine ⟨⟨by omega, by omega⟩, a, ha, _, hc 1 _ rfl, ⟨by omega, by omega⟩, a, ha, _, hc 2 _ rfl, ⟨(rChoose_ok _ _ _ _).mono ?_⟩⟩
        rintro e w4 ⟨rfl, hU4⟩
        refine ⟨_, _, _, rfl, fun w5 q1 q2 q3 q4 => ?_⟩
        have hL5 := (hL3.upd hU4).upd (Upd.same no q1 q2 q3 q4)
        obtain ⟨a, ha, hc⟩ := (h.no hL5.U).atk recIUIB_len (by decide) hi
        refine ⟨⟨by omega, by omega⟩, a, ha, _, hc 0 _ rfl, ⟨by omega, by omega⟩, a, ha, _, hc 1 _ rfl, ⟨fun w6 hN => ?_⟩⟩
        obtain ⟨p', c', w7, hr, hL'⟩ := hL5.push elR recIUIB_len recIUIB_one (by omega) (by omega) (x := fixE active l[i]) rfl hN 32
        rw [← hst] at hr hL'
        exact ⟨p', _, c', w7, hr, hstep w7 p' c' hL'⟩
      · rw [if_neg (by rw [g3]; decide)] at hst
        have hL' := hL.upd hU2
        rw [← hst] at hL' ⊢
        exact hstep w2 p1 c1 hL'
    · have h0 : active = 0 := by simpa using g2
      have e1 : ∀ l, repL active l = [] := fun l => by unfold repL; rw [if_pos h0]
      rw [e1] at hL ⊢
      exact ⟨p1, c1, by rw [e1], by rw [e1]; exact hL⟩
  · have : i = l.length := by have := of_decide_eq_false g; omega
    subst this
    rw [List.take_length] at hL ⊢
    exact ⟨p1, c1, rfl, hL⟩

theorem eqItm (x y : Itm) (w : World) : ∃ b, (Op.equal 44 (.agg #[.int .i64 x.1, .int .u64 (mi x.2.1), .int .i64 x.2.2.1, .bool x.2.2.2]) (.agg #[.int .i64 y.1, .int .u64 (mi y.2.1), .int .i64 y.2.2.1, .bool y.2.2.2])).run Tryd.prog w = .ok b w ∧ (b = true ↔ x = y) := by
  refine ⟨_, run_eq_struct (recIUIB x) (by kernel_rfl) (by kernel_rfl) (by kernel_rfl) (vs := recIUIB y) (by rfl) w, ?_⟩
  simp only [recIUIB, eqL, scEq, Bool.and_true, Bool.and_eq_true, beq_iff_eq, mi_inj]
  constructor
  · rintro ⟨h1, h2, h3, h4⟩
    exact Prod.ext h1 (Prod.ext h2 (Prod.ext h3 h4))
  · rintro rfl; exact ⟨rfl, rfl, rfl, rfl⟩
theorem rSame_ok {w : World} {p q : Option Addr} {l m : List Itm} {c d : Nat} (h : Cells w p (l.flatMap recIUIB)) (k : Cells w q (m.flatMap recIUIB)) (hb : l.length ≤ 1000) :
    Calls Tryd.prog 13 #[.slice p l.length c, .slice q m.length d] w fun e w' => e = .returned (.bool (decide (l = m))) ∧ Upd no w w' := by
  refine u13 ?_
  rw [t13]
  refine ⟨fun g => ⟨?_, Upd.refl _ _⟩, fun g => ?_⟩
  · have : l ≠ m := fun e => by subst e; simp at g
    simp [this]
  · have hl : l.length = m.length := by simp at g; omega
    refine ⟨WP_loop okProg (M := M13) (σ := Nat) (fun i => e13_1 p l.length c q m.length d i) (fun i w' => i ≤ l.length ∧ l.take i = m.take i ∧ Upd no w w') (fun i _ => l.length - i) 0 ⟨rfl, rfl, rfl, trivial⟩ ⟨by omega, by simp, Upd.refl _ _⟩ ?_⟩
    rintro i w1 ⟨h1, h2, hU⟩
    rw [t13_1]
    refine ⟨fun hlt w2 q1 q2 q3 q4 => ?_, fun hge => ⟨?_, hU⟩⟩
    · have hi : i < l.length := by simpa using hlt
      have hi' : i < m.length := by omega
      have hU2 := hU.trans (Upd.same no q1 q2 q3 q4) (fun _ _ h => h)
      obtain ⟨a, ha, hc⟩ := (h.no hU2).atk recIUIB_len (by decide) hi
      obtain ⟨b, hb, hc'⟩ := (k.no hU2).atk recIUIB_len (by decide) hi'
      obtain ⟨bb, he, hbb⟩ := eqItm l[i] m[i] w2
      refine ⟨⟨by omega, by omega⟩, a, ha, _, hc 0 _ rfl, _, hc 1 _ rfl, _, hc 2 _ rfl, _, hc 3 _ rfl, ⟨by omega, by omega⟩, b, hb, _, hc' 0 _ rfl, _, hc' 1 _ rfl, _, hc' 2 _ rfl, _, hc' 3 _ rfl, bb, he, rfl, fun g2 => ⟨?_, hU2⟩, fun g2 => ?_⟩
      · have : l ≠ m := fun e => by
          have : bb = true := hbb.2 (by simp only [e])
          rw [this] at g2; cases g2
        simp [this]
      · have he : l[i] = m[i] := hbb.1 (by simpa using g2)
        exact ⟨i + 1, ⟨rfl, rfl, by rw [w64 (by omega)]; rfl, trivial⟩, ⟨by omega, by rw [List.take_succ_eq_append_getElem hi, List.take_succ_eq_append_getElem hi', h2, he], hU2⟩, by omega⟩
    · have : i = l.length := by simp at hge; omega
      subst this
      rw [List.take_length, hl, List.take_length] at h2
      simp [h2]
end Go.Dav
