/- The statements on calls from core to core: what their functions come to. -/
import Derived.Test.YtfpgfcecbnlliaaDoorRCall18
set_option linter.unusedSimpArgs false
set_option linter.unusedVariables false
namespace Go.Dav
open Go.Proofs
theorem rcListS_ok {w : World} {F : Fp} {b : Nat} {x : CS} (h : RcO b w F x.2) (cpu : Int) : Calls Tryd.prog 18 #[.pointer (some ⟨b, 0, none⟩), .int .i64 cpu] w fun e w' => ∃ p c, e = .returned (.slice p (lsE x cpu).length c) ∧ Cells w' p ((lsE x cpu).map (Value.int .i64)) ∧ Upd no w w' :=
  (rcList_ok h cpu).mono fun _ _ ⟨p, c, he, hC, hw⟩ => ⟨p, c, he, hC, hw ▸ Upd.refl _ _⟩
theorem lsE_le {x : CS} (h : CI x) {cpu : Int} : (lsE x cpu).length ≤ 32 := by
  unfold lsE
  split
  · rename_i hc
    obtain ⟨i, hi, rfl⟩ := inB_at hc
    rw [rowB_at hi]
    exact (h.row hi).2
  · simp

theorem known_ok {w : World} (hTab : Tab w) : Calls Tryd.prog 8 #[] w fun e w' => e = .returned (.bool true) ∧ Upd no w w' := by
  refine u8 ?_
  rw [t8]
  refine ⟨(cnew_ok _ _).mono ?_⟩
  rintro e w2 hh
  obtain ⟨_, b1, F1, rfl, hQ, hU, hF⟩ := hh.resolve_left (fun h => absurd (by unfold okC; omega) h.1)
  have hM : Mine w w2 (CaO b1) (newC 2) := Mine.new (Upd.refl _ _) hU hQ hF
  clear hU hQ hF
  refine ⟨_, _, rfl, ?_⟩
  refine ⟨fun g1 => ?_, fun g1 => ?_⟩
  · refine ⟨fun g2 => ?_, fun g2 => ?_⟩
    · first | exact absurd g2 (by decide +kernel) | (simp at g2; done)
    · obtain ⟨_, hA, hT⟩ := hM.turn
      refine ⟨(csend_ok hA (hTab.no hM.U) _).mono ?_⟩
      rintro e w2 ⟨rfl, hU⟩
      replace hM := hT _ _ hU
      clear hA hT hU
      refine ⟨_, _, rfl, ?_⟩
      obtain ⟨_, hA, hT⟩ := hM.turn
      refine ⟨(csend_ok hA (hTab.no hM.U) _).mono ?_⟩
      rintro e w2 ⟨rfl, hU⟩
      replace hM := hT _ _ hU
      clear hA hT hU
      refine ⟨_, _, rfl, ?_⟩
      obtain ⟨_, hA, hT⟩ := hM.turn
      refine ⟨(cmove_ok hA _ _).mono ?_⟩
      rintro e w2 ⟨rfl, hU⟩
      replace hM := hT _ _ hU
      clear hA hT hU
      refine ⟨_, _, rfl, ?_⟩
      obtain ⟨_, hA, hT⟩ := hM.turn
      refine ⟨(ctake_ok hA _).mono ?_⟩
      rintro e w2 ⟨rfl, hU⟩
      replace hM := hT _ _ hU
      clear hA hT hU
      refine ⟨_, _, rfl, ?_⟩
      obtain ⟨_, hA, hT⟩ := hM.turn
      refine ⟨(ctake_ok hA _).mono ?_⟩
      rintro e w2 ⟨rfl, hU⟩
      replace hM := hT _ _ hU
      clear hA hT hU
      refine ⟨_, _, rfl, ?_⟩
      refine ⟨fun g3 => ?_, fun g3 => ?_⟩
      · refine ⟨fun g4 => ?_, fun g4 => ?_⟩
        · refine ⟨fun g5 => ?_, fun g5 => ?_⟩
          · refine ⟨fun g6 => ?_, fun g6 => ?_⟩
            · refine ⟨fun g7 => ?_, fun g7 => ?_⟩
              · refine ⟨fun g8 => ?_, fun g8 => ?_⟩
                · obtain ⟨_, hA, hT⟩ := hM.turn
                  refine ⟨(chas_ok hA _).mono ?_⟩
                  rintro e w2 ⟨rfl, hU⟩
                  replace hM := hM.upd hU
                  clear hA hT hU
                  refine ⟨_, rfl, ?_⟩
                  exact ⟨congrArg (fun b => Ending.returned (Value.bool b)) (by decide +kernel), hM.U⟩
                · first | exact absurd g8 (by decide +kernel) | (simp at g8; done)
              · first | exact absurd g7 (by decide +kernel) | (simp at g7; done)
            · first | exact absurd g6 (by decide +kernel) | (simp at g6; done)
          · first | exact absurd g5 (by decide +kernel) | (simp at g5; done)
        · first | exact absurd g4 (by decide +kernel) | (simp at g4; done)
      · first | exact absurd g3 (by decide +kernel) | (simp at g3; done)
  · first | exact absurd g1 (by decide +kernel) | (simp at g1; done)

theorem callNil_ok {W : World} (hTab : Tab W) {m n : Int} (_ : (Lit.int .i64 m).wf = true) (_ : (Lit.int .i64 n).wf = true) : Calls Tryd.prog 5 #[.int .i64 m, .int .i64 n] W fun e w' => e = .returned (.bool true) ∧ Upd no W w' := by
  have hM := Mine.non W
  refine u5 ?_
  rw [t5]
  refine ⟨(csendNil_ok _ _).mono ?_⟩
  rintro e w2 ⟨rfl, hU⟩
  replace hM := hM.upd hU
  clear hU
  refine ⟨_, _, rfl, ?_⟩
  refine ⟨(ctakeNil_ok _ _).mono ?_⟩
  rintro e w2 ⟨rfl, hU⟩
  replace hM := hM.upd hU
  clear hU
  refine ⟨_, _, rfl, ?_⟩
  refine ⟨(cmoveNil_ok _ _ _).mono ?_⟩
  rintro e w2 ⟨rfl, hU⟩
  replace hM := hM.upd hU
  clear hU
  refine ⟨_, _, rfl, ?_⟩
  refine ⟨fun g1 => ?_, fun g1 => ?_⟩
  · refine ⟨fun g2 => ?_, fun g2 => ?_⟩
    · refine ⟨fun g3 => ?_, fun g3 => ?_⟩
      · refine ⟨(chasNil_ok _ _).mono ?_⟩
        rintro e w2 ⟨rfl, rfl⟩
        refine ⟨_, rfl, ?_⟩
        refine ⟨fun g4 => ?_, fun g4 => ?_⟩
        · refine ⟨(cloadNil_ok _ _).mono ?_⟩
          rintro e w2 ⟨rfl, hU⟩
          replace hM := hM.upd hU
          clear hU
          refine ⟨_, rfl, ?_⟩
          refine ⟨fun g5 => ?_, fun g5 => ?_⟩
          · refine ⟨(clistNil_ok _ _).mono ?_⟩
            rintro e w2 ⟨rfl, hU⟩
            replace hM := hM.upd hU
            clear hU
            refine ⟨_, _, _, rfl, ?_⟩
            refine ⟨fun g6 => ?_, fun g6 => ?_⟩
            · refine ⟨(known_ok (hTab.no hM.U)).mono ?_⟩
              rintro e w3 ⟨rfl, hU2⟩
              refine ⟨_, rfl, ?_⟩
              exact ⟨rfl, hM.U.and hU2⟩
            · exact absurd g6 (by decide)
          · exact absurd g5 (by decide)
        · exact absurd g4 (by decide)
      · exact absurd g3 (by decide)
    · exact absurd g2 (by decide)
  · exact absurd g1 (by decide)

/-! ### CallPlays -/
theorem r3_3 {W w : World} {p : Option Addr} {n c : Nat} {b1 b2 b3 : Nat} {i : Int} {a : Int × Int × Int × Int} {x : CS} {y1 y2 : Int} {B : Env → World → Prop}
    (hM : Mine W w (Star (Star (CaO b1) (RcO b2)) (Rw b3 32 recIIII)) ((x, x.2), a)) (hI : CI x)
    (hB : ∀ w', Mine W w' (Star (CaO b1) (RcO b2)) (x, x.2) → B (e3_1 p n c (some ⟨b1, 0, none⟩) (some ⟨b2, 0, none⟩) (IntKind.wrap .i64 (i + 1))) w') :
    CutD Tryd.prog M3 c3_3 (e3_3 p n c (some ⟨b1, 0, none⟩) (some ⟨b2, 0, none⟩) i ⟨b3, 0, none⟩ y1 y1 y2 y2) w (k3_3 B fun e w' => e = .returned (.bool true) ∧ Upd no W w') := by
  refine CutD.mk ?_
  rw [t3_3]
  intro w1 q1 q2 q3 q4
  replace hM := hM.upd (Upd.same no q1 q2 q3 q4)
  refine ⟨fun g1 => ?_, fun g1 => ?_⟩
  · refine ⟨fun g2 => ?_, fun g2 => ?_⟩
    · refine ⟨_,  (atBlk hM.right).cell rfl, ?_⟩
      refine ⟨_,  (atBlk hM.right).cell rfl, ?_⟩
      obtain ⟨_, hA, hT⟩ := hM.ll
      refine ⟨(chas_ok hA _).mono ?_⟩
      rintro e w2 ⟨rfl, hU⟩
      replace hM := hM.upd hU
      clear hA hT hU
      refine ⟨_, rfl, ?_⟩
      refine ⟨(atBlk hM.right).cell rfl, ?_⟩
      obtain ⟨_, hA, hT⟩ := hM.lr
      refine ⟨(rcHas_ok hA hI _).mono ?_⟩
      rintro e w2 ⟨rfl, rfl⟩
      clear hA hT
      refine ⟨_, rfl, ?_⟩
      refine ⟨fun g3 => ?_, fun g3 => ?_⟩
      · refine ⟨_,  (atBlk hM.right).cell rfl, ?_⟩
        refine ⟨_,  (atBlk hM.right).cell rfl, ?_⟩
        obtain ⟨_, hA, hT⟩ := hM.ll
        refine ⟨(cload_ok hA _).mono ?_⟩
        rintro e w2 ⟨rfl, hU⟩
        replace hM := hM.upd hU
        clear hA hT hU
        refine ⟨_, rfl, ?_⟩
        refine ⟨(atBlk hM.right).cell rfl, ?_⟩
        obtain ⟨_, hA, hT⟩ := hM.lr
        refine ⟨(rcList_ok hA _).mono ?_⟩
        rintro e w2 ⟨_, _, rfl, hC, rfl⟩
        clear hA hT
        refine ⟨_, _, _, rfl, ?_⟩
        refine ⟨fun g4 => ?_, fun g4 => ?_⟩
        · refine ⟨_,  (atBlk hM.right).cell rfl, ?_⟩
          refine ⟨_,  (atBlk hM.right).cell rfl, ?_⟩
          obtain ⟨_, hA, hT⟩ := hM.ll
          refine ⟨(clist_ok hA _).mono ?_⟩
          rintro e w2 ⟨_, _, rfl, hC0, hU⟩
          replace hM := hM.upd hU
          clear hA hT hU
          refine ⟨_, _, _, rfl, ?_⟩
          refine ⟨(atBlk hM.right).cell rfl, ?_⟩
          obtain ⟨_, hA, hT⟩ := hM.lr
          refine ⟨(rcList_ok hA _).mono ?_⟩
          rintro e w2 ⟨_, _, rfl, hC, rfl⟩
          clear hA hT
          refine ⟨_, _, _, rfl, ?_⟩
          refine ⟨(ints_ok hC0 hC (Nat.le_trans (lsE_le hI) (by omega))).mono ?_⟩
          rintro e w2 ⟨rfl, hU⟩
          replace hM := hM.upd hU
          clear hU
          refine ⟨_, rfl, ?_⟩
          refine ⟨fun g5 => ?_, fun g5 => ?_⟩
          · refine ⟨_,  (atBlk hM.right).cell rfl, ?_⟩
            refine ⟨_,  (atBlk hM.right).cell rfl, ?_⟩
            obtain ⟨_, hA, hT⟩ := hM.ll
            refine ⟨(clist_ok hA _).mono ?_⟩
            rintro e w2 ⟨_, _, rfl, hC0, hU⟩
            replace hM := hM.upd hU
            clear hA hT hU
            refine ⟨_, _, _, rfl, ?_⟩
            refine ⟨(atBlk hM.right).cell rfl, ?_⟩
            obtain ⟨_, hA, hT⟩ := hM.lr
            refine ⟨(rcList_ok hA _).mono ?_⟩
            rintro e w2 ⟨_, _, rfl, hC, rfl⟩
            clear hA hT
            refine ⟨_, _, _, rfl, ?_⟩
            refine ⟨(ints_ok hC0 hC (Nat.le_trans (lsE_le hI) (by omega))).mono ?_⟩
            rintro e w2 ⟨rfl, hU⟩
            replace hM := hM.upd hU
            clear hU
            refine ⟨_, rfl, ?_⟩
            refine ⟨fun g6 => ?_, fun g6 => ?_⟩
            · first | (simp at g6; done)
            · exact hB _ hM.drop
          · first | (simp at g5; done)
        · first | (simp at g4; done)
      · first | (simp at g3; done)
    · first | (simp at g2; done)
  · first | (simp at g1; done)

theorem callPlays_ok {W : World} (hTab : Tab W) {m : Int} {p : Option Addr} {l : List (Int × Int × Int × Int)} {c : Nat} (_ : (Lit.int .i64 m).wf = true) (_ : ∀ x ∈ l, okIIII x) (h : Cells W p (l.flatMap recIIII)) (_ : l.length ≤ maxLen) :
    Calls Tryd.prog 3 #[.int .i64 m, .slice p l.length c] W fun e w' => e = .returned (.bool true) ∧ Upd no W w' := by
  refine u3 ?_
  rw [t3]
  refine ⟨(cnew_ok m W).mono ?_⟩
  rintro e w1 (⟨hno, rfl, rfl⟩ | ⟨hyes, b1, F1, rfl, hQ, hU, hF⟩)
  · refine ⟨_, _, rfl, ⟨(rcNew_ok m w1).mono ?_⟩⟩
    rintro e w2 (⟨_, rfl, rfl⟩ | ⟨h, _⟩)
    · refine ⟨_, _, rfl, fun _ => ⟨fun g => by simp at g, fun _ => ⟨fun _ => ⟨(known_ok hTab).mono ?_⟩, fun g => by simp at g⟩⟩, fun g => by simp at g⟩
      rintro e w3 ⟨rfl, hU3⟩
      exact ⟨_, rfl, rfl, hU3⟩
    · exact absurd h hno
  · have hM : Mine W w1 (CaO b1) (newC m) := Mine.new (Upd.refl _ _) hU hQ hF
    refine ⟨_, _, rfl, ⟨(rcNew_ok m w1).mono ?_⟩⟩
    rintro e w2 (⟨h, _⟩ | ⟨_, b2, F2, rfl, hQ2, hU2, hF2⟩)
    · exact absurd hyes h
    · replace hM : Mine W w2 (Star (CaO b1) (RcO b2)) (newC m, (newC m).2) := hM.add hU2 hQ2 hF2
      clear hU hQ hF hU2 hQ2 hF2
      refine ⟨_, _, rfl, fun _ => ⟨fun g => by simp at g, fun _ => ⟨fun g => by simp at g, fun _ => ?_⟩⟩, fun g => by simp at g⟩
      refine ⟨WP_loop okProg (M := M3) (σ := Nat × CS) (fun x => e3_1 p l.length c (some ⟨b1, 0, none⟩) (some ⟨b2, 0, none⟩) (x.1 : Int))
        (fun x w => x.1 ≤ l.length ∧ x.1 ≤ 120 ∧ CI x.2 ∧ Mine W w (Star (CaO b1) (RcO b2)) (x.2, x.2.2)) (fun x _ => l.length - x.1) (0, newC m) ⟨rfl, rfl, rfl, rfl, trivial⟩ ⟨by simp, by simp, CI.new, hM⟩ ?_⟩
      clear hM
      rintro ⟨i, x⟩ w ⟨h1, h2, hI, hM⟩
      simp only at h1 h2 hI hM ⊢
      have hgo : CutD Tryd.prog M3 c3_0 e3_0 w (k3_0 fun e w' => e = .returned (.bool true) ∧ Upd no W w') := by
        refine CutD.mk ?_
        rw [t3_0]
        refine ⟨(known_ok (hTab.no hM.U)).mono ?_⟩
        rintro e w' ⟨rfl, hU⟩
        exact ⟨_, rfl, rfl, hM.U.and hU⟩
      rw [t3_1]
      refine ⟨fun g1 => ?_, fun g1 => ?_⟩
      · refine ⟨fun g2 => ?_, fun g2 => ?_⟩
        · have hi : i < l.length := by simpa using g1
          have hi2 : i < 120 := by simp at g2; omega
          refine ⟨⟨by omega, by omega⟩, ?_⟩
          obtain ⟨_, ha, hc⟩ := (h.no hM.U).atk recIIII_len (by omega) hi
          cases ha
          refine ⟨_, rfl, ?_⟩
          refine ⟨_,  hc 0 _ rfl, ?_⟩
          refine ⟨_,  hc 1 _ rfl, ?_⟩
          refine ⟨_,  hc 2 _ rfl, ?_⟩
          refine ⟨_,  hc 3 _ rfl, ?_⟩
          refine ⟨fun w2 hN => ?_⟩
          replace hM : Mine W w2 (Star (Star (CaO b1) (RcO b2)) (Rw w.heap.size 32 recIIII)) ((x, x.2), (0, 0, 0, 0)) := hM.add (hN.upd no) (Rw.new (enc := recIIII) (s := (0, 0, 0, 0)) hN rfl) (fun _ h => Nat.le_of_eq h.symm)
          generalize w.heap.size = b3 at hM ⊢
          obtain ⟨_, hA, hT⟩ := hM.right
          refine hA.blk.wr0 (by simp [recIIII]) fun w3 hW => ?_
          replace hM : Mine W w3 (Star (Star (CaO b1) (RcO b2)) (Rw b3 32 recIIII)) ((x, x.2), l[i]) := hT _ _ (hA.turned (s' := l[i]) hW.U hW.blk')
          clear hA hT hW
          refine ⟨_,  (atBlk hM.right).cell rfl, ?_⟩
          refine ⟨by decide, ?_⟩
          refine ⟨fun g3 => ?_, fun g3 => ?_⟩
          · refine ⟨_,  (atBlk hM.right).cell rfl, ?_⟩
            obtain ⟨_, hA, hT⟩ := hM.ll
            refine ⟨(csend_ok hA (hTab.no hM.U) _).mono ?_⟩
            rintro e w2 ⟨rfl, hU⟩
            replace hM := hT _ _ hU
            clear hA hT hU
            refine ⟨_, _, rfl, ?_⟩
            refine ⟨_,  (atBlk hM.right).cell rfl, ?_⟩
            obtain ⟨_, hA, hT⟩ := hM.lr
            refine ⟨(rcSend_ok hA hI _).mono ?_⟩
            rintro e w2 ⟨rfl, hU⟩
            replace hM := hT _ _ hU
            clear hA hT hU
            refine ⟨_, _, rfl, ?_⟩
            refine r3_3 (x := sendS x l[i].2.1) hM (hI.send _).1 fun w4 hM => ?_
            exact ⟨(i + 1, sendS x l[i].2.1), ⟨rfl, rfl, rfl, by rw [w64 (by omega)]; rfl, trivial⟩, ⟨by simp only; omega, by simp only; omega, (hI.send _).1, hM⟩, by simp only; omega⟩
          · refine ⟨fun g4 => ?_, fun g4 => ?_⟩
            · refine ⟨_,  (atBlk hM.right).cell rfl, ?_⟩
              obtain ⟨_, hA, hT⟩ := hM.ll
              refine ⟨(ctake_ok hA _).mono ?_⟩
              rintro e w2 ⟨rfl, hU⟩
              replace hM := hT _ _ hU
              clear hA hT hU
              refine ⟨_, _, rfl, ?_⟩
              refine ⟨_,  (atBlk hM.right).cell rfl, ?_⟩
              obtain ⟨_, hA, hT⟩ := hM.lr
              refine ⟨(rcTake_ok hA hI _).mono ?_⟩
              rintro e w2 ⟨rfl, hU⟩
              replace hM := hT _ _ hU
              clear hA hT hU
              refine ⟨_, _, rfl, ?_⟩
              refine r3_3 (x := tkS x l[i].2.1) hM (hI.takeEq _).2.2.1 fun w4 hM => ?_
              exact ⟨(i + 1, tkS x l[i].2.1), ⟨rfl, rfl, rfl, by rw [w64 (by omega)]; rfl, trivial⟩, ⟨by simp only; omega, by simp only; omega, (hI.takeEq _).2.2.1, hM⟩, by simp only; omega⟩
            · refine ⟨_,  (atBlk hM.right).cell rfl, ?_⟩
              refine ⟨_,  (atBlk hM.right).cell rfl, ?_⟩
              obtain ⟨_, hA, hT⟩ := hM.ll
              refine ⟨(cmove_ok hA _ _).mono ?_⟩
              rintro e w2 ⟨rfl, hU⟩
              replace hM := hT _ _ hU
              clear hA hT hU
              refine ⟨_, _, rfl, ?_⟩
              refine ⟨_,  (atBlk hM.right).cell rfl, ?_⟩
              refine ⟨_,  (atBlk hM.right).cell rfl, ?_⟩
              obtain ⟨_, hA, hT⟩ := hM.lr
              refine ⟨(rcMove_ok hA hI _ _).mono ?_⟩
              rintro e w2 ⟨rfl, hU⟩
              replace hM := hT _ _ hU
              clear hA hT hU
              refine ⟨_, _, rfl, ?_⟩
              refine r3_3 (x := mvS x l[i].2.1 l[i].2.2.1) hM (hI.moveEq _ _).2.2.1 fun w4 hM => ?_
              exact ⟨(i + 1, mvS x l[i].2.1 l[i].2.2.1), ⟨rfl, rfl, rfl, by rw [w64 (by omega)]; rfl, trivial⟩, ⟨by simp only; omega, by simp only; omega, (hI.moveEq _ _).2.2.1, hM⟩, by simp only; omega⟩
        · exact hgo
      · exact hgo
/-! ### CallOnce -/
def ioF (a b : Nat) : List Int := (List.range (b - a)).map (fun (k : Nat) => ((a + k + 1 : Nat) : Int))
theorem ioF_cons {a b : Nat} (h : a < b) : ioF a b = ((a + 1 : Nat) : Int) :: ioF (a + 1) b := by
  unfold ioF
  obtain ⟨d, rfl⟩ : ∃ d, b = a + 1 + d := ⟨b - (a + 1), by omega⟩
  rw [show a + 1 + d - a = d + 1 by omega, show a + 1 + d - (a + 1) = d by omega, List.range_succ_eq_map, List.map_cons, List.map_map]
  congr 1
  apply List.map_congr_left
  intro k _
  simp only [Function.comp]
  omega
theorem ioF_snoc {a b : Nat} (h : a ≤ b) : ioF a (b + 1) = ioF a b ++ [((b + 1 : Nat) : Int)] := by
  unfold ioF
  rw [show b + 1 - a = (b - a) + 1 by omega, List.range_succ, List.map_append, List.map_singleton, show a + (b - a) + 1 = b + 1 by omega]
theorem ioF_nil {a b : Nat} (h : b ≤ a) : ioF a b = [] := by unfold ioF; rw [show b - a = 0 by omega]; rfl
theorem ioF_mem {a b : Nat} {v : Int} : v ∈ ioF a b ↔ (a : Int) < v ∧ v ≤ b := by
  unfold ioF
  simp only [List.mem_map, List.mem_range]
  constructor
  · rintro ⟨k, hk, rfl⟩; omega
  · intro h; exact ⟨v.toNat - 1 - a, by omega, by omega⟩
theorem ct_two {l0 l1 : List Int} {v : Int} : 0 < ct [l0, l1] v ↔ v ∈ l0 ∨ v ∈ l1 := by
  unfold ct
  rw [List.count_pos_iff]
  simp
section
variable {x : CS} {l0 l1 : List Int}
theorem two0 (h : x.2 = [l0, l1]) : inB x 0 ∧ rowB x 0 = l0 := by refine ⟨?_, ?_⟩ <;> simp [inB, rowB, h]
theorem two1 (h : x.2 = [l0, l1]) : inB x 1 ∧ rowB x 1 = l1 := by refine ⟨?_, ?_⟩ <;> simp [inB, rowB, h]
theorem once_send (hI : CI x) {j : Nat} (hj : j < 32) (h : x.2 = [ioF 0 j, []]) : sendE x 0 = (((j + 1 : Nat) : Int), 0) ∧ CI (sendS x 0) ∧ (sendS x 0).2 = [ioF 0 (j + 1), []] := by
  have hh : ∀ v, hasE x.1 v = decide (v ∈ ioF 0 j) := fun v => by
    rw [hI.has, h]
    exact decide_eq_decide.2 (by rw [ct_two]; simp)
  obtain ⟨k1, k2⟩ := take_of (o := x.1) (j := j) (by rw [hI.len]; exact hj) (fun k hk => by rw [hh]; simp only [decide_eq_true_eq, ioF_mem]; omega) (by rw [hh]; simp only [decide_eq_false_iff_not, ioF_mem]; omega)
  obtain ⟨s1, s2, s3⟩ := hI.sendEq (two0 h).1 k1 hj (by rw [hh]; simp only [decide_eq_false_iff_not, ioF_mem]; omega)
  refine ⟨by rw [s1]; rfl, (hI.send 0).1, ?_⟩
  rw [s3, (two0 h).2, h, ioF_snoc (Nat.zero_le _)]
  rfl
theorem once_move (hI : CI x) {j n : Nat} (hj : j < n) (h : x.2 = [ioF j n, ioF 0 j]) : mvE x 0 1 = (((j + 1 : Nat) : Int), 0) ∧ CI (mvS x 0 1) ∧ (mvS x 0 1).2 = [ioF (j + 1) n, ioF 0 (j + 1)] := by
  obtain ⟨m1, m2, m3, _⟩ := hI.moveEq 0 1
  have hin : inB x 0 ∧ inB x 1 := ⟨(two0 h).1, (two1 h).1⟩
  have hne : ¬ (0 : Int) = 1 := by decide
  have hf : frontE (q32 (rowB x 0)) = (((j + 1 : Nat) : Int), 0) := by rw [(two0 h).2, ioF_cons hj]; rfl
  have hp : (popB x 0).2 = [ioF (j + 1) n, ioF 0 j] := by unfold popB; rw [(two0 h).2, h, ioF_cons hj]; rfl
  refine ⟨by rw [m1, if_pos hin, if_neg hne, hf], m3, ?_⟩
  rw [m2, if_pos hin, if_neg hne, hf, if_pos rfl, (two1 hp).2, hp, ioF_snoc (Nat.zero_le _)]
  rfl
theorem once_take1 (hI : CI x) {j n k : Nat} (hj : j < k) (h : x.2 = [ioF k n, ioF j k]) : tkE x 1 = (((j + 1 : Nat) : Int), 0) ∧ CI (tkS x 1) ∧ (tkS x 1).2 = [ioF k n, ioF (j + 1) k] := by
  obtain ⟨m1, m2, m3, _⟩ := hI.takeEq 1
  have hin : inB x 1 := (two1 h).1
  refine ⟨by rw [m1, if_pos hin, (two1 h).2, ioF_cons hj]; rfl, m3, ?_⟩
  rw [m2, if_pos hin, (two1 h).2, h, ioF_cons hj]
  rfl
theorem once_take0 (hI : CI x) {j n k : Nat} (hj : j < n) (h : x.2 = [ioF j n, ioF j k]) (hk : k ≤ j) : tkE x 0 = (((j + 1 : Nat) : Int), 0) ∧ CI (tkS x 0) ∧ (tkS x 0).2 = [ioF (j + 1) n, ioF (j + 1) k] := by
  obtain ⟨m1, m2, m3, _⟩ := hI.takeEq 0
  have hin : inB x 0 := (two0 h).1
  refine ⟨by rw [m1, if_pos hin, (two0 h).2, ioF_cons hj]; rfl, m3, ?_⟩
  rw [m2, if_pos hin, (two0 h).2, h, ioF_cons hj, ioF_nil hk, ioF_nil (show k ≤ j + 1 by omega)]
  rfl
end
section
variable {W w : World} {b1 : Nat} {x : CS} {N V : Nat}
theorem once2 (hTab : Tab W) (hM : Mine W w (CaO b1) x) (h : x.2 = [ioF N N, ioF N V]) (hV : V ≤ N) :
    CutD Tryd.prog M4 c4_2 (e4_2 (some ⟨b1, 0, none⟩)) w (k4_2 fun e w' => e = .returned (.bool true) ∧ Upd no W w') := by
  refine CutD.mk ?_
  rw [t4_2]
  rw [ioF_nil hV, ioF_nil (Nat.le_refl N)] at h
  obtain ⟨_, hA, hT⟩ := hM.turn
  refine ⟨(cload_ok hA 0).mono ?_⟩
  rw [lsE, if_pos (two0 h).1, (two0 h).2]
  rintro e w2 ⟨rfl, hU⟩
  replace hM := hM.upd hU
  obtain ⟨_, hA, hT⟩ := hM.turn
  refine ⟨_, rfl, ⟨(cload_ok hA 1).mono ?_⟩⟩
  rw [lsE, if_pos (two1 h).1, (two1 h).2]
  rintro e w3 ⟨rfl, hU⟩
  replace hM := hM.upd hU
  refine ⟨_, rfl, fun _ => ⟨(known_ok (hTab.no hM.U)).mono ?_⟩, fun g => absurd g (by decide)⟩
  rintro e w' ⟨rfl, hU⟩
  exact ⟨_, rfl, rfl, hM.U.and hU⟩
theorem once1 (hTab : Tab W) (hM : Mine W w (CaO b1) x) (hI : CI x) (h : x.2 = [ioF V N, ioF 0 V]) (hV : V ≤ N) (hN : N ≤ 32) :
    CutD Tryd.prog M4 c4_1 (e4_1 (N : Int) (V : Int) (some ⟨b1, 0, none⟩)) w (k4_1 fun e w' => e = .returned (.bool true) ∧ Upd no W w') := by
  refine CutD.mk ?_
  rw [t4_1]
  refine ⟨WP_loop okProg (M := M4) (σ := Nat × CS) (fun s => e4_5 (N : Int) (V : Int) (some ⟨b1, 0, none⟩) ((s.1 : Int) + 1)) (fun s w => s.1 ≤ N ∧ CI s.2 ∧ s.2.2 = [ioF (max s.1 V) N, ioF s.1 V] ∧ Mine W w (CaO b1) s.2) (fun s _ => N - s.1) (0, x) ⟨rfl, rfl, rfl, rfl, trivial⟩ ⟨by simp, hI, by rw [h]; simp, hM⟩ ?_⟩
  clear hM hI h
  rintro ⟨j, x⟩ w ⟨j1, hI, h, hM⟩
  simp only at j1 hI h hM ⊢
  rw [t4_5]
  have step : ∀ c, (tkE x c = (((j + 1 : Nat) : Int), 0) ∧ CI (tkS x c) ∧ (tkS x c).2 = [ioF (max (j + 1) V) N, ioF (j + 1) V]) → j < N → ∀ {B : Env → World → Prop}, (∀ w', Mine W w' (CaO b1) (tkS x c) → B (e4_5 (N : Int) (V : Int) (some ⟨b1, 0, none⟩) (IntKind.wrap .i64 ((j : Int) + 1 + 1))) w') →
      CutD Tryd.prog M4 c4_7 (e4_7 (N : Int) (V : Int) (some ⟨b1, 0, none⟩) ((j : Int) + 1) c) w (k4_7 B fun e w' => e = .returned (.bool true) ∧ Upd no W w') := by
    intro c ⟨k1, k2, k3⟩ hj B hB
    refine CutD.mk ?_
    rw [t4_7]
    obtain ⟨_, hA, hT⟩ := hM.turn
    refine ⟨(ctake_ok hA c).mono ?_⟩
    rw [k1]
    rintro e w2 ⟨rfl, hU⟩
    replace hM := hT _ _ hU
    clear hA hT hU
    refine ⟨_, _, rfl, fun g => ⟨fun g => ?_, fun g => by simp at g⟩, fun g => by simp at g⟩
    obtain ⟨_, hA, hT⟩ := hM.turn
    refine ⟨(chas_ok hA _).mono ?_⟩
    rintro e w3 ⟨rfl, hU⟩
    have hno : hasE (tkS x c).1 ((j : Int) + 1) = false := by
      rw [k2.has, k3, decide_eq_false_iff_not, ct_two, ioF_mem, ioF_mem]
      omega
    rw [hno]
    exact ⟨_, rfl, ⟨fun g => (by cases g), fun _ => hB _ (hM.upd hU)⟩⟩
  refine ⟨fun g => ?_, fun g => ?_⟩
  · have hj : j < N := by simp at g; omega
    have nx : ∀ w' c, (tkE x c = (((j + 1 : Nat) : Int), 0) ∧ CI (tkS x c) ∧ (tkS x c).2 = [ioF (max (j + 1) V) N, ioF (j + 1) V]) → Mine W w' (CaO b1) (tkS x c) → ∃ s : Nat × CS, CoversL (e4_5 (N : Int) (V : Int) (some ⟨b1, 0, none⟩) (IntKind.wrap .i64 ((j : Int) + 1 + 1))) (e4_5 (N : Int) (V : Int) (some ⟨b1, 0, none⟩) ((s.1 : Int) + 1)) ∧ (s.1 ≤ N ∧ CI s.2 ∧ s.2.2 = [ioF (max s.1 V) N, ioF s.1 V] ∧ Mine W w' (CaO b1) s.2) ∧ N - s.1 < N - j := fun w' c hk hM =>
      ⟨(j + 1, tkS x c), ⟨rfl, rfl, rfl, by rw [w64 (by omega)]; rfl, trivial⟩, ⟨by simp only; omega, hk.2.1, hk.2.2, hM⟩, by simp only; omega⟩
    refine ⟨fun g1 => ?_, fun g1 => ?_⟩
    · have hv : j < V := by simp at g1; omega
      have e1 : max j V = V := by omega
      have e2 : max (j + 1) V = V := by omega
      rw [e1] at h
      have hk := once_take1 hI hv h
      exact step 1 (by rw [e2]; exact hk) hj fun w' hM => nx w' 1 (by rw [e2]; exact hk) hM
    · have hv : V ≤ j := by simp at g1; omega
      have e1 : max j V = j := by omega
      have e2 : max (j + 1) V = j + 1 := by omega
      rw [e1] at h
      have hk := once_take0 hI hj h hv
      exact step 0 (by rw [e2]; exact hk) hj fun w' hM => nx w' 0 (by rw [e2]; exact hk) hM
  · have : j = N := by simp at g; omega
    subst this
    rw [show max j V = j by omega] at h
    exact once2 hTab hM h hV
theorem once0 (hTab : Tab W) (hM : Mine W w (CaO b1) x) (hI : CI x) (h : x.2 = [ioF 0 N, []]) (hV : V ≤ N) (hN : N ≤ 32) :
    CutD Tryd.prog M4 c4_0 (e4_0 (N : Int) (V : Int) (some ⟨b1, 0, none⟩)) w (k4_0 fun e w' => e = .returned (.bool true) ∧ Upd no W w') := by
  refine CutD.mk ?_
  rw [t4_0]
  refine ⟨WP_loop okProg (M := M4) (σ := Nat × CS) (fun s => e4_4 (N : Int) (V : Int) (some ⟨b1, 0, none⟩) ((s.1 : Int) + 1)) (fun s w => s.1 ≤ V ∧ CI s.2 ∧ s.2.2 = [ioF s.1 N, ioF 0 s.1] ∧ Mine W w (CaO b1) s.2) (fun s _ => V - s.1) (0, x) ⟨rfl, rfl, rfl, rfl, trivial⟩ ⟨by simp, hI, by rw [h]; rfl, hM⟩ ?_⟩
  clear hM hI h
  rintro ⟨j, x⟩ w ⟨j1, hI, h, hM⟩
  simp only at j1 hI h hM ⊢
  rw [t4_4]
  refine ⟨fun g => ?_, fun g => ?_⟩
  · have hj : j < V := by simp at g; omega
    obtain ⟨k1, k2, k3⟩ := once_move hI (show j < N by omega) h
    obtain ⟨_, hA, hT⟩ := hM.turn
    refine ⟨(cmove_ok hA 0 1).mono ?_⟩
    rw [k1]
    rintro e w2 ⟨rfl, hU⟩
    replace hM := hT _ _ hU
    refine ⟨_, _, rfl, fun g => ⟨fun g => by simp at g, fun g => ⟨(j + 1, mvS x 0 1), ⟨rfl, rfl, rfl, by rw [w64 (by omega)]; rfl, trivial⟩, ⟨by simp only; omega, k2, k3, hM⟩, by simp only; omega⟩⟩, fun g => by simp at g⟩
  · have : j = V := by simp at g; omega
    subst this
    exact once1 hTab hM hI h hV hN
end
theorem callOnce_ok {W : World} (hTab : Tab W) {m n : Int} (_ : (Lit.int .i64 m).wf = true) (_ : (Lit.int .i64 n).wf = true) : Calls Tryd.prog 4 #[.int .i64 m, .int .i64 n] W fun e w' => e = .returned (.bool true) ∧ Upd no W w' := by
  refine u4 ?_
  rw [t4]
  refine ⟨(cnew_ok 2 W).mono ?_⟩
  rintro e w1 hh
  obtain ⟨_, b1, F1, rfl, hQ, hU, hF⟩ := hh.resolve_left (fun h => absurd (by unfold okC; omega) h.1)
  have hM : Mine W w1 (CaO b1) (newC 2) := Mine.new (Upd.refl _ _) hU hQ hF
  clear hU hQ hF
  have hk : ((0 : Int) == 0) = true → Call Tryd.prog 8 [] w1 fun e w' => ∃ b, e = .returned (.bool b) ∧ Ending.returned (.bool b) = .returned (.bool true) ∧ Upd no W w' := fun _ => ⟨(known_ok (hTab.no hM.U)).mono fun e w' ⟨h1, h2⟩ => ⟨_, h1, rfl, hM.U.and h2⟩⟩
  refine ⟨_, _, rfl, fun _ => ⟨fun g1 => ⟨fun g2 => ⟨fun g3 => ⟨fun g4 => ⟨hk, fun g => by simp at g⟩, fun g4 => ?_⟩, fun _ => ⟨hk, fun g => by simp at g⟩⟩, fun _ => ⟨hk, fun g => by simp at g⟩⟩, fun _ => ⟨hk, fun g => by simp at g⟩⟩, fun g => by simp at g⟩
  have g1 : 0 ≤ m := by simp at g1; omega
  have g2 : m ≤ 32 := by simp at g2; omega
  have g3 : 0 ≤ n := by simp at g3; omega
  have g4 : n ≤ m := by simp at g4; omega
  obtain ⟨N, rfl⟩ : ∃ N : Nat, m = N := ⟨m.toNat, by omega⟩
  obtain ⟨V, rfl⟩ : ∃ V : Nat, n = V := ⟨n.toNat, by omega⟩
  refine ⟨WP_loop okProg (M := M4) (σ := Nat × CS) (fun s => e4_3 (N : Int) (V : Int) (some ⟨b1, 0, none⟩) ((s.1 : Int) + 1)) (fun s w => s.1 ≤ N ∧ CI s.2 ∧ s.2.2 = [ioF 0 s.1, []] ∧ Mine W w (CaO b1) s.2) (fun s _ => N - s.1) (0, newC 2) ⟨rfl, rfl, rfl, rfl, trivial⟩ ⟨by simp, CI.new, rfl, hM⟩ ?_⟩
  clear hM hk
  rintro ⟨j, x⟩ w ⟨j1, hI, h, hM⟩
  simp only at j1 hI h hM ⊢
  rw [t4_3]
  refine ⟨fun g => ?_, fun g => ?_⟩
  · have hj : j < N := by simp at g; omega
    obtain ⟨k1, k2, k3⟩ := once_send hI (show j < 32 by omega) h
    obtain ⟨_, hA, hT⟩ := hM.turn
    refine ⟨(csend_ok hA (hTab.no hM.U) 0).mono ?_⟩
    rw [k1]
    rintro e w2 ⟨rfl, hU⟩
    replace hM := hT _ _ hU
    refine ⟨_, _, rfl, fun g => ⟨fun g => by simp at g, fun g => ⟨(j + 1, sendS x 0), ⟨rfl, rfl, rfl, by rw [w64 (by omega)]; rfl, trivial⟩, ⟨by simp only; omega, k2, k3, hM⟩, by simp only; omega⟩⟩, fun g => by simp at g⟩
  · have : j = N := by simp at g; omega
    subst this
    exact once0 hTab hM hI h (by omega) (by omega)
end Go.Dav
