/- The statements on numbers that are given out: what their functions come to. -/
import Derived.Test.YtokmhpfheaaajaaDoorRSlot04
set_option linter.unusedSimpArgs false
set_option linter.unusedVariables false
namespace Go.Dav
open Go.Proofs

theorem slListC_ok {w : World} {F : Fp} {b : Nat} {o : List Bool} (h : SlO b w F o) : Calls Tryd.prog 9 #[.pointer (some ⟨b, 0, none⟩)] w fun e w' => ∃ p c, e = .returned (.slice p (outL o o.length).length c) ∧ Cells w' p ((outL o o.length).map (Value.int .i64)) ∧ Upd no w w' :=
  (slList_ok h).mono fun _ _ ⟨p, c, he, hL⟩ => ⟨p, c, he, hL.S.cells, hL.U⟩
theorem rslListC_ok {w : World} {F : Fp} {b : Nat} {o : List Bool} (h : RsO b w F o) : Calls Tryd.prog 14 #[.pointer (some ⟨b, 0, none⟩)] w fun e w' => ∃ p c, e = .returned (.slice p (outL o o.length).length c) ∧ Cells w' p ((outL o o.length).map (Value.int .i64)) ∧ Upd no w w' :=
  (rslList_ok h).mono fun _ _ ⟨p, c, he, hL⟩ => ⟨p, c, he, hL.S.cells, hL.U⟩

theorem known_ok {w : World} (hTab : Tab w) : Calls Tryd.prog 7 #[] w fun e w' => e = .returned (.bool true) ∧ Upd no w w' := by
  refine u7 ?_
  rw [t7]
  refine ⟨(slNew_ok _ _).mono ?_⟩
  rintro e w2 hh
  obtain ⟨_, b1, F1, rfl, hQ, hU, hF⟩ := hh.resolve_left (fun h => absurd (by omega) h.1)
  have hM : Mine w w2 (SlO b1) (List.replicate 3 false) := Mine.new (Upd.refl _ _) hU hQ hF
  clear hU hQ hF
  refine ⟨_, _, rfl, ?_⟩
  refine ⟨fun g1 => ?_, fun g1 => ?_⟩
  · refine ⟨fun g2 => ?_, fun g2 => ?_⟩
    · first | exact absurd g2 (by decide +kernel) | (simp at g2; done)
    · obtain ⟨_, hA, hT⟩ := hM.turn
      refine ⟨(slTake_ok (hTab.no hM.U) hA).mono ?_⟩
      rintro e w2 ⟨rfl, hU⟩
      replace hM := hT _ _ hU
      clear hA hT hU
      refine ⟨_, _, rfl, ?_⟩
      obtain ⟨_, hA, hT⟩ := hM.turn
      refine ⟨(slTake_ok (hTab.no hM.U) hA).mono ?_⟩
      rintro e w2 ⟨rfl, hU⟩
      replace hM := hT _ _ hU
      clear hA hT hU
      refine ⟨_, _, rfl, ?_⟩
      obtain ⟨_, hA, hT⟩ := hM.turn
      refine ⟨(slGive_ok hA _).mono ?_⟩
      rintro e w2 ⟨rfl, hU⟩
      replace hM := hT _ _ hU
      clear hA hT hU
      refine ⟨_, rfl, ?_⟩
      obtain ⟨_, hA, hT⟩ := hM.turn
      refine ⟨(slTake_ok (hTab.no hM.U) hA).mono ?_⟩
      rintro e w2 ⟨rfl, hU⟩
      replace hM := hT _ _ hU
      clear hA hT hU
      refine ⟨_, _, rfl, ?_⟩
      refine ⟨fun g3 => ?_, fun g3 => ?_⟩
      · refine ⟨fun g4 => ?_, fun g4 => ?_⟩
        · refine ⟨fun g5 => ?_, fun g5 => ?_⟩
          · obtain ⟨_, hA, hT⟩ := hM.turn
            refine ⟨(slListC_ok hA).mono ?_⟩
            rintro e w2 ⟨_, _, rfl, hC, hU⟩
            replace hM := hM.upd hU
            clear hA hT hU
            refine ⟨_, _, _, rfl, ?_⟩
            refine ⟨fun w2 hN => ?_⟩
            have hC2 := (Sl.new (T := 3) (n := 2) (sz := 1) (cs := ([1, 2] : List Int).map (Value.int .i64)) hN (by simp) (by decide)).cells
            replace hM := hM.upd (hN.upd no)
            replace hC := hC.no (hN.upd no)
            refine ⟨(ints_ok hC hC2 (by decide +kernel)).mono ?_⟩
            rintro e w2 ⟨rfl, hU⟩
            replace hM := hM.upd hU
            clear hU
            refine ⟨_, rfl, ?_⟩
            refine ⟨fun g6 => ?_, fun g6 => ?_⟩
            · obtain ⟨_, hA, hT⟩ := hM.turn
              refine ⟨(slCap_ok hA).mono ?_⟩
              rintro e w2 ⟨rfl, rfl⟩
              clear hA hT
              refine ⟨_, rfl, ?_⟩
              exact ⟨congrArg (fun b => Ending.returned (Value.bool b)) (by decide +kernel), hM.U⟩
            · first | exact absurd g6 (by decide +kernel) | (simp at g6; done)
          · first | exact absurd g5 (by decide +kernel) | (simp at g5; done)
        · first | exact absurd g4 (by decide +kernel) | (simp at g4; done)
      · first | exact absurd g3 (by decide +kernel) | (simp at g3; done)
  · first | exact absurd g1 (by decide +kernel) | (simp at g1; done)

theorem slotNil_ok {W : World} (hTab : Tab W) {n : Int} (_ : (Lit.int .i64 n).wf = true) : Calls Tryd.prog 5 #[.int .i64 n] W fun e w' => e = .returned (.bool true) ∧ Upd no W w' := by
  refine u5 ?_
  rw [t5]
  refine ⟨(slTakeNil_ok _).mono ?_⟩
  rintro e w2 ⟨rfl, rfl⟩
  refine ⟨_, _, rfl, ?_⟩
  refine ⟨fun g1 => ?_, fun g1 => ?_⟩
  · refine ⟨(slGiveNil_ok _ _).mono ?_⟩
    rintro e w2 ⟨rfl, rfl⟩
    refine ⟨_, rfl, ?_⟩
    refine ⟨fun g2 => ?_, fun g2 => ?_⟩
    · refine ⟨(slHasNil_ok _ _).mono ?_⟩
      rintro e w2 ⟨rfl, rfl⟩
      refine ⟨_, rfl, ?_⟩
      refine ⟨fun g3 => ?_, fun g3 => ?_⟩
      · refine ⟨(slLenNil_ok _).mono ?_⟩
        rintro e w2 ⟨rfl, rfl⟩
        refine ⟨_, rfl, ?_⟩
        refine ⟨fun g4 => ?_, fun g4 => ?_⟩
        · refine ⟨(slCapNil_ok _).mono ?_⟩
          rintro e w2 ⟨rfl, rfl⟩
          refine ⟨_, rfl, ?_⟩
          refine ⟨fun g5 => ?_, fun g5 => ?_⟩
          · refine ⟨(slListNil_ok _).mono ?_⟩
            rintro e w2 ⟨rfl, rfl⟩
            refine ⟨_, _, _, rfl, ?_⟩
            refine ⟨fun g6 => ?_, fun g6 => ?_⟩
            · refine ⟨(known_ok hTab).mono ?_⟩
              rintro e w2 ⟨rfl, hU⟩
              refine ⟨_, rfl, ?_⟩
              exact ⟨rfl, hU⟩
            · exact absurd g6 (by decide)
          · exact absurd g5 (by decide)
        · exact absurd g4 (by decide)
      · exact absurd g3 (by decide)
    · exact absurd g2 (by decide)
  · exact absurd g1 (by decide)

theorem r4_3 {W w : World} (hTab : Tab W) {p : Option Addr} {n c : Nat} {b1 b2 : Nat} {i m most : Int} {o : List Bool} {B : Env → World → Prop}
    (hM : Mine W w (Star (SlO b1) (RsO b2)) (o, o)) (hl : o.length ≤ 1024) (hm : (o.length : Int) = most)
    (hB : ∀ w', Mine W w' (Star (SlO b1) (RsO b2)) (o, o) → B (e4_1 most p n c m (some ⟨b1, 0, none⟩) (some ⟨b2, 0, none⟩) (IntKind.wrap .i64 (i + 1))) w') :
    CutD Tryd.prog M4 c4_3 (e4_3 most p n c m (some ⟨b1, 0, none⟩) (some ⟨b2, 0, none⟩) i) w (k4_3 B fun e w' => e = .returned (.bool true) ∧ Upd no W w') := by
  refine CutD.mk ?_
  rw [t4_3]
  obtain ⟨_, hA, hT⟩ := hM.right
  refine ⟨(rslListC_ok hA).mono ?_⟩
  rintro e w2 ⟨_, _, rfl, hC, hU⟩
  replace hM := hM.upd hU
  clear hA hT hU
  refine ⟨_, _, _, rfl, ?_⟩
  obtain ⟨_, hA, hT⟩ := hM.left
  refine ⟨(slLen_ok hA).mono ?_⟩
  rintro e w2 ⟨rfl, rfl⟩
  clear hA hT
  refine ⟨_, rfl, ?_⟩
  refine ⟨fun g1 => ?_, fun g1 => ?_⟩
  · obtain ⟨_, hA, hT⟩ := hM.left
    refine ⟨(slCap_ok hA).mono ?_⟩
    rintro e w2 ⟨rfl, rfl⟩
    clear hA hT
    refine ⟨_, rfl, ?_⟩
    refine ⟨fun g2 => ?_, fun g2 => ?_⟩
    · obtain ⟨_, hA, hT⟩ := hM.left
      refine ⟨(slHas_ok hA _).mono ?_⟩
      rintro e w2 ⟨rfl, hU⟩
      replace hM := hM.upd hU
      replace hC := hC.no hU
      clear hA hT hU
      refine ⟨_, rfl, ?_⟩
      obtain ⟨_, hA, hT⟩ := hM.right
      refine ⟨(rslHas_ok hA _).mono ?_⟩
      rintro e w2 ⟨rfl, rfl⟩
      clear hA hT
      refine ⟨_, rfl, ?_⟩
      refine ⟨fun g3 => ?_, fun g3 => ?_⟩
      · obtain ⟨_, hA, hT⟩ := hM.left
        refine ⟨(slListC_ok hA).mono ?_⟩
        rintro e w2 ⟨_, _, rfl, hC2, hU⟩
        replace hM := hM.upd hU
        replace hC := hC.no hU
        clear hA hT hU
        refine ⟨_, _, _, rfl, ?_⟩
        refine ⟨(ints_ok hC2 hC (by have := outL_le o o.length; simp only; omega)).mono ?_⟩
        rintro e w2 ⟨rfl, hU⟩
        replace hM := hM.upd hU
        clear hU
        refine ⟨_, rfl, ?_⟩
        refine ⟨fun g4 => ?_, fun g4 => ?_⟩
        · first | (simp at g4; done) | (rw [outL_len] at g4; simp at g4; done) | (rw [hm] at g4; simp at g4; done)
        · exact hB _ hM
      · first | (simp at g3; done) | (rw [outL_len] at g3; simp at g3; done) | (rw [hm] at g3; simp at g3; done)
    · first | (simp at g2; done) | (rw [outL_len] at g2; simp at g2; done) | (rw [hm] at g2; simp at g2; done)
  · first | (simp at g1; done) | (rw [outL_len] at g1; simp at g1; done) | (rw [hm] at g1; simp at g1; done)

theorem slotPlays_ok {W : World} (hTab : Tab W) {n : Int} {p : Option Addr} {l : List Int} {c : Nat} {m : Int} (_ : (Lit.int .i64 n).wf = true) (_ : ∀ x ∈ l, (Lit.int .i64 x).wf = true) (h : Cells W p (l.map (Value.int .i64))) (_ : l.length ≤ maxLen) (_ : (Lit.int .i64 m).wf = true) :
    Calls Tryd.prog 4 #[.int .i64 n, .slice p l.length c, .int .i64 m] W fun e w' => e = .returned (.bool true) ∧ Upd no W w' := by
  refine u4 ?_
  rw [t4]
  refine ⟨(slNew_ok n W).mono ?_⟩
  rintro e w1 (⟨hno, rfl, rfl⟩ | ⟨hyes, b1, F1, rfl, hQ, hU, hF⟩)
  · refine ⟨_, _, rfl, ⟨(rslNew_ok n w1).mono ?_⟩⟩
    rintro e w2 (⟨_, rfl, rfl⟩ | ⟨h, _⟩)
    · refine ⟨_, _, rfl, fun _ => ⟨fun g => by simp at g, fun _ => ⟨fun _ => ⟨(known_ok hTab).mono ?_⟩, fun g => by simp at g⟩⟩, fun g => by simp at g⟩
      rintro e w3 ⟨rfl, hU⟩
      exact ⟨_, rfl, rfl, hU⟩
    · exact absurd h hno
  · have hM : Mine W w1 (SlO b1) (List.replicate n.toNat false) := Mine.new (Upd.refl _ _) hU hQ hF
    refine ⟨_, _, rfl, ⟨(rslNew_ok n w1).mono ?_⟩⟩
    rintro e w2 (⟨h, _⟩ | ⟨_, b2, F2, rfl, hQ2, hU2, hF2⟩)
    · exact absurd hyes h
    · replace hM : Mine W w2 (Star (SlO b1) (RsO b2)) (List.replicate n.toNat false, List.replicate n.toNat false) := hM.add hU2 hQ2 hF2
      clear hU hQ hF hU2 hQ2 hF2
      refine ⟨_, _, rfl, fun _ => ⟨fun g => by simp at g, fun _ => ⟨fun g => by simp at g, fun _ => ?_⟩⟩, fun g => by simp at g⟩
      refine ⟨WP_loop okProg (M := M4) (σ := Nat × List Bool) (fun x => e4_1 n p l.length c m (some ⟨b1, 0, none⟩) (some ⟨b2, 0, none⟩) (x.1 : Int))
        (fun x w => x.1 ≤ l.length ∧ x.1 ≤ 200 ∧ x.2.length ≤ 1024 ∧ (x.2.length : Int) = n ∧ Mine W w (Star (SlO b1) (RsO b2)) (x.2, x.2)) (fun x _ => l.length - x.1) (0, List.replicate n.toNat false) ⟨rfl, rfl, rfl, rfl, rfl, rfl, trivial⟩ ⟨by simp, by simp, by simp; omega, by simp; omega, hM⟩ ?_⟩
      clear hM
      rintro ⟨i, o⟩ w ⟨h1, h2, hl, hm, hM⟩
      simp only at h1 h2 hl hm hM ⊢
      have hgo : CutD Tryd.prog M4 c4_0 e4_0 w (k4_0 fun e w' => e = .returned (.bool true) ∧ Upd no W w') := by
        refine CutD.mk ?_
        rw [t4_0]
        refine ⟨(known_ok (hTab.no hM.U)).mono ?_⟩
        rintro e w' ⟨rfl, hU⟩
        exact ⟨_, rfl, rfl, hM.U.and hU⟩
      rw [t4_1]
      refine ⟨fun g1 => ?_, fun g1 => ?_⟩
      · refine ⟨fun g2 => ?_, fun g2 => ?_⟩
        · have hi : i < l.length := by simpa using g1
          have hi2 : i < 200 := by simp at g2; omega
          refine ⟨⟨by omega, by omega⟩, ?_⟩
          obtain ⟨_, ha, hc⟩ := (h.no hM.U).at1 hi
          cases ha
          refine ⟨_, rfl, ?_⟩
          refine ⟨_,  hc, ?_⟩
          refine ⟨fun g3 => ?_, fun g3 => ?_⟩
          · obtain ⟨_, hA, hT⟩ := hM.left
            refine ⟨(slTake_ok (hTab.no hM.U) hA).mono ?_⟩
            rintro e w2 ⟨rfl, hU⟩
            replace hM := hT _ _ hU
            clear hA hT hU
            refine ⟨_, _, rfl, ?_⟩
            obtain ⟨_, hA, hT⟩ := hM.right
            refine ⟨(rslTake_ok hA).mono ?_⟩
            rintro e w2 ⟨rfl, hU⟩
            replace hM := hT _ _ hU
            clear hA hT hU
            refine ⟨_, _, rfl, ?_⟩
            refine ⟨fun g4 => ?_, fun g4 => ?_⟩
            · refine ⟨fun g5 => ?_, fun g5 => ?_⟩
              · simp at g5
              · refine r4_3 hTab hM (by rw [take_len]; exact hl) (by rw [take_len]; exact hm) fun w4 hM => ?_
                exact ⟨(i + 1, takeS o), ⟨rfl, rfl, rfl, rfl, rfl, by rw [w64 (by omega)]; rfl, trivial⟩, ⟨by simp only; omega, by simp only; omega, (by simp only [take_len]; exact hl), (by simp only [take_len]; exact hm), hM⟩, by simp only; omega⟩
            · simp at g4
          · intro w1 q1 q2 q3 q4
            replace hM := hM.upd (Upd.same no q1 q2 q3 q4)
            refine ⟨⟨by omega, by omega⟩, ?_⟩
            obtain ⟨_, ha, hc⟩ := (h.no hM.U).at1 hi
            cases ha
            refine ⟨_, rfl, ?_⟩
            refine ⟨_,  hc, ?_⟩
            refine ⟨⟨by omega, by omega⟩, ?_⟩
            obtain ⟨_, ha, hc⟩ := (h.no hM.U).at1 hi
            cases ha
            refine ⟨_, rfl, ?_⟩
            refine ⟨_,  hc, ?_⟩
            obtain ⟨_, hA, hT⟩ := hM.left
            refine ⟨(slGive_ok hA _).mono ?_⟩
            rintro e w2 ⟨rfl, hU⟩
            replace hM := hT _ _ hU
            clear hA hT hU
            refine ⟨_, rfl, ?_⟩
            obtain ⟨_, ha, hc⟩ := (h.no hM.U).at1 hi
            cases ha
            refine ⟨hc, ?_⟩
            obtain ⟨_, hA, hT⟩ := hM.right
            refine ⟨(rslGive_ok hA _).mono ?_⟩
            rintro e w2 ⟨rfl, hU⟩
            replace hM := hT _ _ hU
            clear hA hT hU
            refine ⟨_, rfl, ?_⟩
            refine ⟨fun g6 => ?_, fun g6 => ?_⟩
            · simp at g6
            · refine r4_3 hTab hM (by rw [give_len]; exact hl) (by rw [give_len]; exact hm) fun w4 hM => ?_
              exact ⟨(i + 1, giveS o l[i]), ⟨rfl, rfl, rfl, rfl, rfl, by rw [w64 (by omega)]; rfl, trivial⟩, ⟨by simp only; omega, by simp only; omega, (by simp only [give_len]; exact hl), (by simp only [give_len]; exact hm), hM⟩, by simp only; omega⟩
        · exact hgo
      · exact hgo

theorem take_iff (o : List Bool) : ((takeE o).2 == 0) = decide (((outL o o.length).length : Int) < (o.length : Int)) := by
  rw [outL_len]
  have hc := count_len o
  have hf := count_full (o := o)
  unfold takeE
  cases h : o.findIdx? (fun x => !x) with
  | none => have := hf.2 h; simp; omega
  | some i => have : o.count true ≠ o.length := fun e => (by rw [hf.1 e] at h; cases h)
              simp; omega
theorem take_new {o : List Bool} (h : (takeE o).2 = 0) : (takeE o).1 ∉ outL o o.length := by
  unfold takeE at h ⊢
  cases hf : o.findIdx? (fun x => !x) with
  | none => rw [hf] at h; simp at h
  | some i =>
    obtain ⟨hi, h2, _⟩ := List.findIdx?_eq_some_iff_getElem.1 hf
    simp only [mem_outL, hasE_of]
    simp [hi]
    intro _ _
    simpa using h2
theorem slotOnce_ok {W : World} (hTab : Tab W) {n : Int} {p : Option Addr} {l : List Int} {c : Nat} (_ : (Lit.int .i64 n).wf = true) (_ : ∀ x ∈ l, (Lit.int .i64 x).wf = true) (h : Cells W p (l.map (Value.int .i64))) (_ : l.length ≤ maxLen) :
    Calls Tryd.prog 3 #[.int .i64 n, .slice p l.length c] W fun e w' => e = .returned (.bool true) ∧ Upd no W w' := by
  refine u3 ?_
  rw [t3]
  refine ⟨(slNew_ok n W).mono ?_⟩
  rintro e w1 (⟨hno, rfl, rfl⟩ | ⟨hyes, b1, F1, rfl, hQ, hU, hF⟩)
  · have hk : Call Tryd.prog 7 [] w1 fun e w' => ∃ b, e = .returned (.bool b) ∧ Ending.returned (.bool b) = .returned (.bool true) ∧ Upd no w1 w' := ⟨(known_ok hTab).mono fun e w' ⟨h1, h2⟩ => ⟨_, h1, rfl, h2⟩⟩
    refine ⟨_, _, rfl, fun _ => ⟨fun g => ⟨fun g2 => hk, fun g2 => ?_⟩, fun g => hk⟩, fun g => by simp at g⟩
    simp at g g2; omega
  · have hM : Mine W w1 (SlO b1) (List.replicate n.toNat false) := Mine.new (Upd.refl _ _) hU hQ hF
    clear hU hQ hF
    refine ⟨_, _, rfl, fun g => by simp at g, fun _ => ?_⟩
    refine ⟨WP_loop okProg (M := M3) (σ := Nat × List Bool) (fun x => e3_1 n p l.length c (some ⟨b1, 0, none⟩) (x.1 : Int))
      (fun x w => x.1 ≤ l.length ∧ x.1 ≤ 200 ∧ (x.2.length : Int) = n ∧ Mine W w (SlO b1) x.2) (fun x _ => l.length - x.1) (0, List.replicate n.toNat false) ⟨rfl, rfl, rfl, rfl, trivial⟩ ⟨by simp, by simp, by simp; omega, hM⟩ ?_⟩
    clear hM
    rintro ⟨i, o⟩ w ⟨h1, h2, hn, hM⟩
    simp only at h1 h2 hM hn ⊢
    have hgo : CutD Tryd.prog M3 c3_0 e3_0 w (k3_0 fun e w' => e = .returned (.bool true) ∧ Upd no W w') := by
      refine CutD.mk ?_
      rw [t3_0]
      refine ⟨(known_ok (hTab.no hM.U)).mono ?_⟩
      rintro e w' ⟨rfl, hU⟩
      exact ⟨_, rfl, rfl, hM.U.and hU⟩
    rw [t3_1]
    refine ⟨fun g1 => ⟨fun g2 => ?_, fun g2 => hgo⟩, fun g1 => hgo⟩
    have hi : i < l.length := by simpa using g1
    have hi2 : i < 200 := by simp at g2; omega
    have go : ∀ w' o', o'.length = o.length → Mine W w' (SlO b1) o' → ∃ s : Nat × List Bool, CoversL (e3_1 n p l.length c (some ⟨b1, 0, none⟩) (IntKind.wrap .i64 ((i : Int) + 1))) (e3_1 n p l.length c (some ⟨b1, 0, none⟩) (s.1 : Int)) ∧ (s.1 ≤ l.length ∧ s.1 ≤ 200 ∧ (s.2.length : Int) = n ∧ Mine W w' (SlO b1) s.2) ∧ l.length - s.1 < l.length - i := fun w' o' hl hM =>
      ⟨(i + 1, o'), ⟨rfl, rfl, rfl, by rw [w64 (by omega)]; rfl, trivial⟩, ⟨by simp only; omega, by simp only; omega, by simp only; omega, hM⟩, by simp only; omega⟩
    obtain ⟨a, ha, hc⟩ := (h.no hM.U).at1 hi
    refine ⟨⟨by omega, by omega⟩, a, ha, _, hc, fun g3 => ⟨⟨by omega, by omega⟩, a, ha, _, hc, ?_⟩, fun g3 => ?_⟩
    · obtain ⟨_, hA, hT⟩ := hM.turn
      refine ⟨(slGive_ok hA _).mono ?_⟩
      rintro e w2 ⟨rfl, hU⟩
      exact ⟨_, rfl, go _ _ (give_len _ _) (hT _ _ hU)⟩
    · obtain ⟨_, hA, hT⟩ := hM.turn
      have hle := outL_le o o.length
      have ho : o.length ≤ 1024 := by obtain ⟨_, _, _, _, h3⟩ := hA; exact h3.2
      refine ⟨(slList_ok hA).mono ?_⟩
      rintro e w2 ⟨p', c', rfl, hL⟩
      replace hM : Mine W w2 (Star (SlO b1) (Ls 3)) (o, (p', c', outL o o.length)) := hM.add hL.U ⟨fun _ => Iff.rfl, hL.S⟩ hL.F
      clear hA hT hL
      obtain ⟨_, hA, hT⟩ := hM.left
      refine ⟨_, _, _, rfl, ⟨(slTake_ok (hTab.no hM.U) hA).mono ?_⟩⟩
      rintro e w3 ⟨rfl, hU⟩
      replace hM := hT _ _ hU
      clear hA hT hU
      simp only at hM ⊢
      have hti := take_iff o
      rw [hn] at hti
      refine ⟨_, _, rfl, fun g4 => ?_, fun _ => ?_⟩
      · rw [hti, beq_self_eq_true] at g4
        cases g4
      · refine ⟨WP_loop okProg (M := M3) (σ := Nat) (fun k => e3_3 n p l.length c (some ⟨b1, 0, none⟩) (i : Int) p' (outL o o.length).length c' (takeE o).1 (takeE o).2 (k : Int)) (fun k w' => k ≤ (outL o o.length).length ∧ w' = w3) (fun k _ => (outL o o.length).length - k) 0 ⟨rfl, rfl, rfl, rfl, rfl, rfl, rfl, rfl, trivial⟩ ⟨by omega, rfl⟩ ?_⟩
        rintro k w4 ⟨k1, rfl⟩
        rw [t3_3]
        refine ⟨fun g5 => ?_, fun g5 => go _ _ (take_len _) hM.drop⟩
        have hk : k < (outL o o.length).length := by have := of_decide_eq_true g5; omega
        have nx : ∃ k' : Nat, CoversL (e3_3 n p l.length c (some ⟨b1, 0, none⟩) (i : Int) p' (outL o o.length).length c' (takeE o).1 (takeE o).2 (IntKind.wrap .i64 ((k : Int) + 1))) (e3_3 n p l.length c (some ⟨b1, 0, none⟩) (i : Int) p' (outL o o.length).length c' (takeE o).1 (takeE o).2 (k' : Int)) ∧ (k' ≤ (outL o o.length).length ∧ w4 = w4) ∧ (outL o o.length).length - k' < (outL o o.length).length - k :=
          ⟨k + 1, ⟨rfl, rfl, rfl, rfl, rfl, rfl, rfl, by rw [w64 (by omega)]; rfl, trivial⟩, ⟨by omega, rfl⟩, by omega⟩
        obtain ⟨_, hA, hT⟩ := hM.right
        obtain ⟨a2, ha2, hc2⟩ := hA.2.cells.at1 hk
        refine ⟨fun g6 => ⟨⟨by omega, by omega⟩, a2, ha2, _, hc2, fun g7 => ?_, fun _ => nx⟩, fun _ => nx⟩
        exact absurd (by rw [← eq_of_beq g7]; exact List.getElem_mem hk) (take_new (eq_of_beq g6))
end Go.Dav
