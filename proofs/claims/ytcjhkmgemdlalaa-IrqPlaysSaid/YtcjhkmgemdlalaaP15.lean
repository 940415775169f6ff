/- The statement that what was raised is handled once: what its functions come to. -/
import Derived.Test.YtcjhkmgemdlalaaIrq15
set_option linter.unusedSimpArgs false
set_option linter.unusedVariables false
namespace Go.Dav
open Go.Proofs

theorem listC_ok {w : World} {F : Fp} {b : Nat} {s : IrS} (h : IrO b w F s) : Calls Try.prog 18 #[.pointer (some ⟨b, 0, none⟩)] w fun e w' => ∃ p d, e = .returned (.slice p (listL s).length d) ∧ Cells w' p ((listL s).map (Value.int .i64)) ∧ Upd no w w' := by
  refine (list_ok h).mono ?_
  rintro e w' ⟨p, d, rfl, hL⟩
  exact ⟨p, d, rfl, hL.S.cells, hL.U⟩

theorem known_ok (w : World) : Calls Try.prog 7 #[] w fun e w' => e = .returned (.bool true) ∧ Upd no w w' := by
  refine u7 ?_
  rw [t7]
  refine ⟨(new_ok _ _).mono ?_⟩
  rintro e w2 hh
  obtain ⟨_, b1, F1, rfl, hQ, hU, hF⟩ := hh.resolve_left (fun h => absurd (by omega) h.1)
  have hM : Mine w w2 (IrO b1) (2, List.replicate 16 i0) := Mine.new (Upd.refl _ _) hU hQ hF
  clear hU hQ hF
  refine ⟨_, _, rfl, ?_⟩
  refine ⟨fun g1 => ?_, fun g1 => ?_⟩
  · refine ⟨fun g2 => ?_, fun g2 => ?_⟩
    · first | exact absurd g2 (by decide +kernel) | (simp at g2; done)
    · obtain ⟨_, hA, hT⟩ := hM.turn
      refine ⟨(request_ok hA _ 1#64).mono ?_⟩
      rintro e w2 ⟨rfl, hU⟩
      replace hM := hT _ _ hU
      clear hA hT hU
      refine ⟨_, rfl, ?_⟩
      obtain ⟨_, hA, hT⟩ := hM.turn
      refine ⟨(hush_ok hA _).mono ?_⟩
      rintro e w2 ⟨rfl, hU⟩
      replace hM := hT _ _ hU
      clear hA hT hU
      refine ⟨_, rfl, ?_⟩
      obtain ⟨_, hA, hT⟩ := hM.turn
      refine ⟨(raise_ok hA _).mono ?_⟩
      rintro e w2 ⟨rfl, hU⟩
      replace hM := hT _ _ hU
      clear hA hT hU
      refine ⟨_, rfl, ?_⟩
      obtain ⟨_, hA, hT⟩ := hM.turn
      refine ⟨(ready_ok hA _).mono ?_⟩
      rintro e w2 ⟨rfl, rfl⟩
      clear hA hT
      refine ⟨_, rfl, ?_⟩
      obtain ⟨_, hA, hT⟩ := hM.turn
      refine ⟨(unhush_ok hA _).mono ?_⟩
      rintro e w2 ⟨rfl, hU⟩
      replace hM := hT _ _ hU
      clear hA hT hU
      refine ⟨_, rfl, ?_⟩
      refine ⟨fun g3 => ?_, fun g3 => ?_⟩
      · refine ⟨fun g4 => ?_, fun g4 => ?_⟩
        · refine ⟨fun g5 => ?_, fun g5 => ?_⟩
          · refine ⟨fun g6 => ?_, fun g6 => ?_⟩
            · refine ⟨fun g7 => ?_, fun g7 => ?_⟩
              · obtain ⟨_, hA, hT⟩ := hM.turn
                refine ⟨(ready_ok hA _).mono ?_⟩
                rintro e w2 ⟨rfl, rfl⟩
                clear hA hT
                refine ⟨_, rfl, ?_⟩
                refine ⟨fun g8 => ?_, fun g8 => ?_⟩
                · obtain ⟨_, hA, hT⟩ := hM.turn
                  refine ⟨(listC_ok hA).mono ?_⟩
                  rintro e w2 ⟨_, _, rfl, hC, hU⟩
                  replace hM := hM.upd hU
                  clear hA hT hU
                  refine ⟨_, _, _, rfl, ?_⟩
                  refine ⟨fun w2 hN => ?_⟩
                  have hC2 := (Sl.new (T := 3) (n := 1) (sz := 1) (cs := ([3] : List Int).map (Value.int .i64)) hN (by simp) (by decide)).cells
                  replace hM := hM.upd (hN.upd no)
                  replace hC := hC.no (hN.upd no)
                  refine ⟨(ints_ok hC hC2 (by decide)).mono ?_⟩
                  rintro e w2 ⟨rfl, hU⟩
                  replace hM := hM.upd hU
                  clear hU
                  refine ⟨_, rfl, ?_⟩
                  exact ⟨congrArg (fun b => Ending.returned (Value.bool b)) (by decide +kernel), hM.U⟩
                · first | exact absurd g8 (by decide +kernel) | (simp at g8; done)
              · first | exact absurd g7 (by decide +kernel) | (simp at g7; done)
            · first | exact absurd g6 (by decide +kernel) | (simp at g6; done)
          · first | exact absurd g5 (by decide +kernel) | (simp at g5; done)
        · first | exact absurd g4 (by decide +kernel) | (simp at g4; done)
      · first | exact absurd g3 (by decide +kernel) | (simp at g3; done)
  · first | exact absurd g1 (by decide +kernel) | (simp at g1; done)

/-- The interrupt k is wanted; masked, pending. -/
def Qs (s : IrS) (k : Nat) (hu pe : Bool) : Prop := k < 16 ∧ s.2.length = 16 ∧ gq s (k : Int) = (true, hu, pe, 3#64)
section
variable {s : IrS} {k : Nat} {hu pe : Bool}
theorem gq_put {q : Iq} (h : s.2.length = 16) (hk : k < 16) : gq (iput s (k : Int) q) (k : Int) = q := by
  unfold gq iput
  simp [List.getD_eq_getElem?_getD, h, hk]
theorem Qs.put {a b : Bool} (h : Qs s k hu pe) : Qs (iput s (k : Int) (true, a, b, 3#64)) k a b := ⟨h.1, by simp [iput, h.2.1], gq_put h.2.1 h.1⟩
theorem Qs.want (h : Qs s k hu pe) : wantE s (k : Int) = 0 := by
  have := h.1
  rw [wantE, if_neg (by unfold nout; omega), h.2.2, if_pos rfl]
theorem q_raise (h : Qs s k hu pe) : wantE s (k : Int) = 0 ∧ Qs (raiseS s k) k hu true := by
  refine ⟨h.want, ?_⟩
  rw [raiseS, if_pos h.want, h.2.2]
  exact h.put
theorem q_ready (h : Qs s k hu pe) : readyE s (k : Int) = (pe && !hu) := by
  rw [readyE, h.want, h.2.2]
  simp
theorem q_clear1 (h : Qs s k false true) : clearE s (k : Int) = 0 ∧ Qs (clearS s k) k false false := by
  have e : clearE s (k : Int) = 0 := by rw [clearE, if_pos h.want, q_ready h]; rfl
  refine ⟨e, ?_⟩
  rw [clearS, if_pos e, h.2.2]
  exact h.put
theorem q_clear0 (h : Qs s k hu pe) (hn : (pe && !hu) = false) : clearE s (k : Int) = 12 ∧ clearS s k = s := by
  have e : clearE s (k : Int) = 12 := by rw [clearE, if_pos h.want, q_ready h, hn]; rfl
  exact ⟨e, by rw [clearS, if_neg (by omega)]⟩
theorem q_hush (h : Qs s k false pe) : hushE s (k : Int) true = 0 ∧ Qs (hushS s k true) k true pe := by
  have e : hushE s (k : Int) true = 0 := by rw [hushE, if_pos h.want, h.2.2]; rfl
  refine ⟨e, ?_⟩
  rw [hushS, if_pos e, h.2.2]
  exact h.put
theorem q_unhush (h : Qs s k true pe) : hushE s (k : Int) false = 0 ∧ Qs (hushS s k false) k false pe := by
  have e : hushE s (k : Int) false = 0 := by rw [hushE, if_pos h.want, h.2.2]; rfl
  refine ⟨e, ?_⟩
  rw [hushS, if_pos e, h.2.2]
  exact h.put
theorem q_req (hk : k < 16) : reqE (4, List.replicate 16 i0) (k : Int) 3#64 = 0 ∧ Qs (reqS (4, List.replicate 16 i0) k 3#64) k false false := by
  have hg : gq (4, List.replicate 16 i0) (k : Int) = i0 := by
    unfold gq
    rw [List.getD_eq_getElem?_getD, List.getElem?_replicate]
    split <;> rfl
  have e : reqE (4, List.replicate 16 i0) (k : Int) 3#64 = 0 := by
    rw [reqE, if_neg (by unfold nout; omega), hg, if_neg (by decide), if_pos (by decide +kernel)]
  refine ⟨e, hk, ?_, ?_⟩
  · rw [reqS, if_pos e]; simp [iput]
  · rw [reqS, if_pos e]
    exact gq_put rfl hk
end

theorem irqOnce_ok {W : World} {n times : Int} (_ : (Lit.int .i64 n).wf = true) (_ : (Lit.int .i64 times).wf = true) (hu : Bool) :
    Calls Try.prog 3 #[.int .i64 n, .int .i64 times, .bool hu] W fun e w' => e = .returned (.bool true) ∧ Upd no W w' := by
  refine u3 ?_
  rw [t3]
  refine ⟨(new_ok 4 W).mono ?_⟩
  rintro e w1 hh
  obtain ⟨_, b1, F1, rfl, hQ, hU, hF⟩ := hh.resolve_left (fun h => absurd (by omega) h.1)
  have hM : Mine W w1 (IrO b1) (4, List.replicate 16 i0) := Mine.new (Upd.refl _ _) hU hQ hF
  clear hU hQ hF
  have hkn : Calls Try.prog 7 #[] w1 fun e w' => e = .returned (.bool true) ∧ Upd no W w' := (known_ok w1).mono (fun e w' h => ⟨h.1, hM.U.and h.2⟩)
  -- the last part
  have hlast : ∀ (k : Nat) (s : IrS) (w : World), Mine W w (IrO b1) s → Qs s k false true → CutD Try.prog M3 c3_2 (e3_2 (k : Int) (some ⟨b1, 0, none⟩)) w (k3_2 fun e w' => e = .returned (.bool true) ∧ Upd no W w') := by
    intro k s w hM hs
    refine CutD.mk ?_
    rw [t3_2]
    obtain ⟨_, hA, hT⟩ := hM.turn
    refine ⟨(ready_ok hA _).mono ?_⟩
    rintro e w2 ⟨rfl, rfl⟩
    clear hA hT
    simp only [q_ready hs]
    refine ⟨_, rfl, fun _ => ?_, fun g => by simp at g⟩
    obtain ⟨_, hA, hT⟩ := hM.turn
    refine ⟨(clear_ok hA _).mono ?_⟩
    rintro e w2 ⟨rfl, hU⟩
    replace hM := hT _ _ hU
    clear hA hT hU
    obtain ⟨c1, hs1⟩ := q_clear1 hs
    simp only [c1]
    refine ⟨_, rfl, fun _ => ?_, fun g => by simp at g⟩
    obtain ⟨_, hA, hT⟩ := hM.turn
    refine ⟨(ready_ok hA _).mono ?_⟩
    rintro e w2 ⟨rfl, rfl⟩
    clear hA hT
    simp only [q_ready hs1]
    refine ⟨_, rfl, fun _ => ?_, fun g => by simp at g⟩
    obtain ⟨_, hA, hT⟩ := hM.turn
    refine ⟨(clear_ok hA _).mono ?_⟩
    rintro e w2 ⟨rfl, hU⟩
    replace hM := hT _ _ hU
    clear hA hT hU
    obtain ⟨c2, hs2⟩ := q_clear0 hs1 rfl
    simp only [c2]
    refine ⟨_, rfl, fun _ => ?_, fun g => by simp at g⟩
    refine ⟨(known_ok _).mono ?_⟩
    rintro e w9 ⟨rfl, hU9⟩
    exact ⟨_, rfl, rfl, hM.U.and hU9⟩
  -- the loop and what follows
  have hloop : ∀ (k : Nat) (s : IrS) (w : World), 1 ≤ times → times ≤ 50 → Mine W w (IrO b1) s → Qs s k hu false → CutD Try.prog M3 c3_0 (e3_0 (k : Int) times hu (some ⟨b1, 0, none⟩)) w (k3_0 fun e w' => e = .returned (.bool true) ∧ Upd no W w') := by
    intro k s w ht1 ht2 hM hs
    refine CutD.mk ?_
    rw [t3_0]
    refine ⟨WP_loop okProg (M := M3) (σ := Nat × IrS) (fun x => e3_3 (k : Int) times hu (some ⟨b1, 0, none⟩) (x.1 : Int)) (fun x w => (x.1 : Int) ≤ times ∧ Mine W w (IrO b1) x.2 ∧ Qs x.2 k hu (decide (0 < x.1))) (fun x _ => times.toNat - x.1) (0, s) ⟨rfl, rfl, rfl, rfl, rfl, trivial⟩ ⟨by simp only; omega, hM, hs⟩ ?_⟩
    clear hM hs
    rintro ⟨i, s⟩ w ⟨h1, hM, hs⟩
    simp only at h1 hM hs ⊢
    rw [t3_3]
    refine ⟨fun g => ?_, fun g => CutD.mk ?_⟩
    · have hi : (i : Int) < times := by simpa using g
      obtain ⟨c1, hs1⟩ := q_raise hs
      obtain ⟨_, hA, hT⟩ := hM.turn
      refine ⟨(raise_ok hA _).mono ?_⟩
      rintro e w2 ⟨rfl, hU⟩
      replace hM := hT _ _ hU
      clear hA hT hU
      simp only [c1]
      refine ⟨_, rfl, fun _ => ?_, fun g => by simp at g⟩
      obtain ⟨_, hA, hT⟩ := hM.turn
      refine ⟨(ready_ok hA _).mono ?_⟩
      rintro e w2 ⟨rfl, rfl⟩
      clear hA hT
      simp only [q_ready hs1]
      refine ⟨_, rfl, fun g => by cases hu <;> simp at g, fun _ => ⟨(i + 1, raiseS s k), ⟨rfl, rfl, rfl, rfl, by rw [w64 (by omega)]; rfl, trivial⟩, ⟨by simp only; omega, hM, by simpa using hs1⟩, by simp only; omega⟩⟩
    · have hi : (i : Int) = times := by simp at g; omega
      have hs : Qs s k hu true := by
        have : decide (0 < i) = true := by simp; omega
        rw [this] at hs
        exact hs
      rw [t3_1]
      refine ⟨fun g => ?_, fun g => ?_⟩
      · subst g
        obtain ⟨c1, hs1⟩ := q_clear0 hs rfl
        obtain ⟨_, hA, hT⟩ := hM.turn
        refine ⟨(clear_ok hA _).mono ?_⟩
        rintro e w2 ⟨rfl, hU⟩
        replace hM := hT _ _ hU
        clear hA hT hU
        rw [hs1] at hM
        simp only [c1]
        refine ⟨_, rfl, fun _ => ?_, fun g => by simp at g⟩
        obtain ⟨c2, hs2⟩ := q_unhush hs
        obtain ⟨_, hA, hT⟩ := hM.turn
        refine ⟨(unhush_ok hA _).mono ?_⟩
        rintro e w2 ⟨rfl, hU⟩
        replace hM := hT _ _ hU
        clear hA hT hU
        simp only [c2]
        exact ⟨_, rfl, fun g => by simp at g, fun _ => hlast k _ _ hM hs2⟩
      · subst g
        exact hlast k _ _ hM hs
  refine ⟨_, _, rfl, fun _ => ⟨fun g1 => ⟨fun g2 => ⟨fun g3 => ⟨fun g4 => ⟨fun _ => ⟨hkn.mono ?_⟩, fun g => by simp at g⟩, fun g4 => ?_⟩, fun g3 => ⟨fun _ => ⟨hkn.mono ?_⟩, fun g => by simp at g⟩⟩, fun g2 => ⟨fun _ => ⟨hkn.mono ?_⟩, fun g => by simp at g⟩⟩, fun g1 => ⟨fun _ => ⟨hkn.mono ?_⟩, fun g => by simp at g⟩⟩, fun g => by simp at g⟩
  · exact fun e w' h => ⟨true, h.1, rfl, h.2⟩
  · have g1 : ¬ n < 0 := by simpa using g1
    have g2 : ¬ 16 ≤ n := by simpa using g2
    have g3 : ¬ times < 1 := by simpa using g3
    have g4 : ¬ 50 < times := by simpa using g4
    obtain ⟨k, rfl⟩ : ∃ k : Nat, n = k := ⟨n.toNat, by omega⟩
    obtain ⟨c1, hs⟩ := q_req (k := k) (by omega)
    clear hkn
    obtain ⟨_, hA, hT⟩ := hM.turn
    refine ⟨(request_ok hA _ 3#64).mono ?_⟩
    rintro e w2 ⟨rfl, hU⟩
    replace hM := hT _ _ hU
    clear hA hT hU
    simp only [c1]
    refine ⟨_, rfl, fun _ => ⟨fun g => ?_, fun g => ?_⟩, fun g => by simp at g⟩
    · subst g
      obtain ⟨c2, hs2⟩ := q_hush hs
      obtain ⟨_, hA, hT⟩ := hM.turn
      refine ⟨(hush_ok hA _).mono ?_⟩
      rintro e w2 ⟨rfl, hU⟩
      replace hM := hT _ _ hU
      clear hA hT hU
      simp only [c2]
      exact ⟨_, rfl, fun g => by simp at g, fun _ => hloop k _ _ (by omega) (by omega) hM hs2⟩
    · subst g
      exact hloop k _ _ (by omega) (by omega) hM hs
  · exact fun e w' h => ⟨true, h.1, rfl, h.2⟩
  · exact fun e w' h => ⟨true, h.1, rfl, h.2⟩
  · exact fun e w' h => ⟨true, h.1, rfl, h.2⟩
end Go.Dav
