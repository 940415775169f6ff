/- The statements on which core a thing goes to: what their functions come to. -/
import Derived.Test.YticbeaaghiodlaaDoorAffin12
set_option linter.unusedSimpArgs false
set_option linter.unusedVariables false
namespace Go.Dav
open Go.Proofs

theorem known_ok {w : World} (hTab : Tab w) : Calls Tryd.prog 8 #[] w fun e w' => e = .returned (.bool true) ∧ Upd no w w' := by
  have hM : Mine w w Non () := Mine.non w
  refine u8 ?_
  rw [t8]
  refine ⟨(choose_ok (hTab.no hM.U) 10 7 3).mono ?_⟩
  rintro e w2 ⟨rfl, rfl⟩
  refine ⟨_, _, _, rfl, ?_⟩
  refine ⟨(choose_ok (hTab.no hM.U) 8 3 3).mono ?_⟩
  rintro e w2 ⟨rfl, rfl⟩
  refine ⟨_, _, _, rfl, ?_⟩
  refine ⟨(choose_ok (hTab.no hM.U) 1 0 0).mono ?_⟩
  rintro e w2 ⟨rfl, rfl⟩
  refine ⟨_, _, _, rfl, ?_⟩
  refine ⟨fun g1 => ?_, fun g1 => ?_⟩
  · refine ⟨fun g2 => ?_, fun g2 => ?_⟩
    · refine ⟨fun g3 => ?_, fun g3 => ?_⟩
      · refine ⟨fun g4 => ?_, fun g4 => ?_⟩
        · refine ⟨fun g5 => ?_, fun g5 => ?_⟩
          · refine ⟨fun g6 => ?_, fun g6 => ?_⟩
            · exact ⟨congrArg (fun b => Ending.returned (Value.bool b)) (by decide +kernel), hM.U⟩
            · exact absurd g6 (by decide +kernel)
          · exact absurd g5 (by decide +kernel)
        · exact absurd g4 (by decide +kernel)
      · exact absurd g3 (by decide +kernel)
    · exact absurd g2 (by decide +kernel)
  · exact absurd g1 (by decide +kernel)

theorem affinChooses_ok {W : World} (hTab : Tab W) (a b : BV) {c : Int} (_ : (Lit.int .i64 c).wf = true) : Calls Tryd.prog 3 #[.int .u64 (mi a), .int .u64 (mi b), .int .i64 c] W fun e w' => e = .returned (.bool true) ∧ Upd no W w' := by
  have hM : Mine W W Non () := Mine.non W
  refine u3 ?_
  rw [t3]
  refine ⟨(choose_ok (hTab.no hM.U) _ _ _).mono ?_⟩
  rintro e w2 ⟨rfl, rfl⟩
  refine ⟨_, _, _, rfl, ?_⟩
  refine ⟨(rChoose_ok _ _ _ _).mono ?_⟩
  rintro e w2 ⟨rfl, hU⟩
  replace hM := hM.upd hU
  clear hU
  refine ⟨_, _, _, rfl, ?_⟩
  refine ⟨fun g1 => ?_, fun g1 => ?_⟩
  · refine ⟨fun g2 => ?_, fun g2 => ?_⟩
    · refine ⟨fun g3 => ?_, fun g3 => ?_⟩
      · refine ⟨(known_ok (hTab.no hM.U)).mono ?_⟩
        rintro e w2 ⟨rfl, hU⟩
        replace hM := hM.upd hU
        clear hU
        refine ⟨_, rfl, ?_⟩
        exact ⟨rfl, hM.U⟩
      · rw [beq_self_eq_true] at g3; cases g3
    · rw [beq_self_eq_true] at g2; cases g2
  · rw [beq_self_eq_true] at g1; cases g1

theorem ch_zero (want : BV) (near : Int) : chE want 0 near = (0, false, 12) := by unfold chE; rw [if_pos rfl]
/-- A core that is chosen may be, and is wanted if one of those that are wanted may be. -/
theorem ch_right (want : BV) {active : BV} (h : active ≠ 0) (near : Int) : hs active (chE want active near).1 = true ∧ hs want (chE want active near).1 = !(chE want active near).2.1 ∧ (chE want active near).2.1 = (want &&& active == 0) ∧ (chE want active near).2.2 = 0 := by
  have hin : hs (if want &&& active = 0 then active else want &&& active) (chE want active near).1 = true ∧ (chE want active near).2.1 = (want &&& active == 0) ∧ (chE want active near).2.2 = 0 := by
    unfold chE
    rw [if_neg h]
    by_cases hn : hs (if want &&& active = 0 then active else want &&& active) near = true
    · rw [if_pos hn]; exact ⟨hn, rfl, rfl⟩
    · rw [if_neg hn]; exact ⟨(nextE_ok (from_ne h) near).2, rfl, rfl⟩
  obtain ⟨h1, h2, h3⟩ := hin
  refine ⟨?_, ?_, h2, h3⟩
  · by_cases hb : want &&& active = 0
    · rw [if_pos hb] at h1; exact h1
    · rw [if_neg hb, hs_and, Bool.and_eq_true] at h1; exact h1.2
  · rw [h2]
    by_cases hb : want &&& active = 0
    · rw [if_pos hb] at h1
      have h4 := hs_and want active (chE want active near).1
      rw [hb, hs_zero, h1, Bool.and_true] at h4
      rw [hb, ← h4]; rfl
    · rw [if_neg hb, hs_and, Bool.and_eq_true] at h1
      rw [h1.1, beq_false_of_ne hb]; rfl

theorem affinRight_ok {W : World} (hTab : Tab W) (a b : BV) {c : Int} (_ : (Lit.int .i64 c).wf = true) : Calls Tryd.prog 4 #[.int .u64 (mi a), .int .u64 (mi b), .int .i64 c] W fun e w' => e = .returned (.bool true) ∧ Upd no W w' := by
  have hM : Mine W W Non () := Mine.non W
  refine u4 ?_
  rw [t4]
  refine ⟨(choose_ok hTab a b c).mono ?_⟩
  rintro e w1 ⟨rfl, rfl⟩
  refine ⟨_, _, _, rfl, ?_⟩
  have fin : ∀ w' : World, Upd no w1 w' → Call Tryd.prog 8 [] w' fun e w2 => ∃ b, e = .returned (.bool b) ∧ Ending.returned (.bool b) = .returned (.bool true) ∧ Upd no w1 w2 := fun w' hU => ⟨(known_ok (hTab.no hU)).mono fun e w2 ⟨h1, h2⟩ => ⟨_, h1, rfl, hU.and h2⟩⟩
  by_cases hb : b = 0
  · subst hb
    rw [ch_zero]
    exact ⟨fun _ => ⟨fun _ => fin w1 (Upd.refl _ _), fun g => by rw [mi_beq0] at g; simp at g⟩, fun g => by simp at g⟩
  · obtain ⟨h1, h2, h3, h4⟩ := ch_right a hb c
    refine ⟨fun g => by rw [h4] at g; simp at g, fun _ => ⟨(rHas_ok _ _ _).mono ?_⟩⟩
    rintro e w2 ⟨rfl, rfl⟩
    refine ⟨_, rfl, fun _ => ⟨(rHas_ok _ _ _).mono ?_⟩, fun g => by rw [h1] at g; cases g⟩
    rintro e w3 ⟨rfl, rfl⟩
    refine ⟨_, rfl, fun _ => ⟨(rAnd_ok _ _ _).mono ?_⟩, fun g => by rw [h2, beq_self_eq_true] at g; cases g⟩
    rintro e w4 ⟨rfl, hU⟩
    exact ⟨_, rfl, fun _ => fin _ hU, fun g => by rw [mi_beq0, h3, beq_self_eq_true] at g; cases g⟩

theorem fix_right {active : BV} (h : active ≠ 0) (x : Itm) : wrongE active (fixE active x) = false := by
  obtain ⟨h1, h2, h3, h4⟩ := ch_right x.2.1 h x.2.2.1
  unfold wrongE fixE
  simp only [h1, h2, Bool.not_true, Bool.false_or]
  rw [h3]
  cases (x.2.1 &&& active == 0) <;> rfl
theorem rep_rep (active : BV) (l : List Itm) : repL active (repL active l) = [] := by
  by_cases h : active = 0
  · unfold repL; rw [if_pos h]
  · unfold repL
    rw [if_neg h, if_neg h, List.map_eq_nil_iff, List.filter_eq_nil_iff]
    intro y hy
    obtain ⟨x, _, rfl⟩ := List.mem_map.1 hy
    rw [fix_right h]; decide

theorem affinRepairs_ok {W : World} (hTab : Tab W) (m : BV) {p : Option Addr} {l : List Itm} {c : Nat} (_ : ∀ x ∈ l, okIUIB x) (h : Cells W p (l.flatMap recIUIB)) (_ : l.length ≤ maxLen) :
    Calls Tryd.prog 5 #[.int .u64 (mi m), .slice p l.length c] W fun e w' => e = .returned (.bool true) ∧ Upd no W w' := by
  refine u5 ?_
  rw [t5]
  refine ⟨fun g => ⟨(known_ok hTab).mono ?_⟩, fun g => ?_⟩
  · rintro e w' ⟨rfl, hU⟩
    exact ⟨_, rfl, rfl, hU⟩
  have hl : l.length ≤ 100 := by have := of_decide_eq_false g; omega
  have hrl := repL_le m l
  refine ⟨(given_ok h (by omega)).mono ?_⟩
  rintro e w1 ⟨py, cy, rfl, hL⟩
  have hM := hL.U
  have hy := hL.S.cells
  clear hL
  refine ⟨_, _, _, rfl, ⟨(repair_ok (hTab.no hM) m hy (by omega)).mono ?_⟩⟩
  rintro e w2 ⟨px, cx, rfl, hL⟩
  have hM := hM.and hL.U
  have hy := hy.no hL.U
  have hx := hL.S.cells
  clear hL
  refine ⟨_, _, _, rfl, ⟨(taken_ok hx (by omega)).mono ?_⟩⟩
  rintro e w3 ⟨pt, ct, rfl, hL⟩
  have hM := hM.and hL.U
  have hy := hy.no hL.U
  have hx := hx.no hL.U
  have ht := hL.S.cells
  clear hL
  refine ⟨_, _, _, rfl, ⟨(rRepair_ok m (h.no hM) (by omega)).mono ?_⟩⟩
  rintro e w4 ⟨pr, cr, rfl, hL⟩
  have hM := hM.and hL.U
  have hy := hy.no hL.U
  have hx := hx.no hL.U
  have ht := ht.no hL.U
  have hr := hL.S.cells
  clear hL
  refine ⟨_, _, _, rfl, ⟨(rSame_ok ht hr (by omega)).mono ?_⟩⟩
  rintro e w5 ⟨rfl, hU⟩
  have hM := hM.and hU
  have hy := hy.no hU
  have hx := hx.no hU
  refine ⟨_, rfl, fun g => by simp at g, fun _ => ?_⟩
  clear ht hr hU
  refine ⟨WP_loop okProg (M := M5) (σ := Nat) (fun i => e5_1 (mi m) p l.length c py l.length cy px (repL m l).length cx (i : Int)) (fun i w => i ≤ l.length ∧ Upd no w5 w) (fun i _ => l.length - i) 0 ⟨rfl, rfl, rfl, rfl, rfl, trivial⟩ ⟨by omega, Upd.refl _ _⟩ ?_⟩
  rintro i w6 ⟨k1, hU⟩
  have hgo : CutD Tryd.prog M5 c5_0 (e5_0 (mi m) px (repL m l).length cx) w6 (k5_0 fun e w' => e = .returned (.bool true) ∧ Upd no W w') := by
    refine CutD.mk ?_
    rw [t5_0]
    refine ⟨(repair_ok (hTab.no (hM.and hU)) m (hx.no hU) (by omega)).mono ?_⟩
    rintro e w7 ⟨p7, c7, rfl, hL⟩
    rw [rep_rep]
    refine ⟨_, _, _, rfl, fun _ => ⟨(known_ok (hTab.no ((hM.and hU).and hL.U))).mono ?_⟩, fun g => by simp at g⟩
    rintro e w8 ⟨rfl, hU8⟩
    exact ⟨_, rfl, rfl, ((hM.and hU).and hL.U).and hU8⟩
  rw [t5_1]
  refine ⟨fun g1 => ⟨fun g2 w7 q1 q2 q3 q4 => ?_, fun g2 => hgo⟩, fun g1 => hgo⟩
  have hi : i < l.length := by simpa using g1
  have hU7 := hU.and (Upd.same no q1 q2 q3 q4)
  obtain ⟨a, ha, hc⟩ := (hy.no hU7).atk recIUIB_len (by decide) hi
  obtain ⟨b, hb, hd⟩ := (h.no (hM.and hU7)).atk recIUIB_len (by decide) hi
  refine ⟨⟨by omega, by omega⟩, a, ha, _, hc 0 _ rfl, _, hc 1 _ rfl, _, hc 2 _ rfl, _, hc 3 _ rfl, ⟨by omega, by omega⟩, b, hb, _, hd 0 _ rfl, _, hd 1 _ rfl, _, hd 2 _ rfl, _, hd 3 _ rfl, ⟨(wrong_ok m l[i] w7).mono ?_⟩⟩
  rintro e w8 ⟨rfl, hU8⟩
  obtain ⟨b8, hb8, hd8⟩ := (h.no (hM.and (hU7.and hU8))).atk recIUIB_len (by decide) hi
  obtain rfl := Option.some.inj (hb.symm.trans hb8)
  refine ⟨_, rfl, hd8, ⟨(rWrong_ok m l[i] w8).mono ?_⟩⟩
  rintro e w9 ⟨rfl, hU9⟩
  exact ⟨_, rfl, fun g => by simp at g, fun _ => ⟨i + 1, ⟨rfl, rfl, rfl, rfl, by rw [w64 (by omega)]; rfl, trivial⟩, ⟨by omega, (hU7.and hU8).and hU9⟩, by omega⟩⟩
end Go.Dav
