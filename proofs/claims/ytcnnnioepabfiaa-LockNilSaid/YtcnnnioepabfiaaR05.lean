/- The statements on a pair that cores write: what their functions come to. -/
import Derived.Test.YtcnnnioepabfiaaPr05
import Derived.Test.YtcnnnioepabfiaaQ05
set_option linter.unusedSimpArgs false
set_option linter.unusedVariables false
namespace Go.Dav
open Go.Proofs

theorem get0 (s : Pr) : getE s 0 = s.a := rfl
theorem get1 (s : Pr) : getE s 1 = s.b := rfl

theorem takeNil_ok (c : Int) (w : World) : Calls Try.prog 8 #[.pointer none, .int .i64 c] w fun e w' => e = .returned (.int .i64 1) ∧ w' = w := by
  refine u8 ?_
  rw [t8]
  refine ⟨(may_ok _ _ w).mono ?_⟩
  rintro e w' ⟨rfl, rfl⟩
  exact ⟨_, rfl, fun _ => ⟨rfl, rfl⟩, fun h => by simp [mayE] at h⟩
theorem leaveNil_ok (c : Int) (w : World) : Calls Try.prog 10 #[.pointer none, .int .i64 c] w fun e w' => e = .returned (.int .i64 1) ∧ w' = w := by
  refine u10 ?_
  rw [t10]
  refine ⟨(may_ok _ _ w).mono ?_⟩
  rintro e w' ⟨rfl, rfl⟩
  exact ⟨_, rfl, fun _ => ⟨rfl, rfl⟩, fun h => by simp [mayE] at h⟩
theorem waitsNil_ok  (w : World) : Calls Try.prog 15 #[.pointer none] w fun e w' => e = .returned (.slice none 0 0) ∧ w' = w := by
  refine u15 ?_
  rw [t15]
  first | exact ⟨fun _ => ⟨rfl, rfl⟩, fun h => by simp at h⟩ | exact ⟨fun h => by simp at h, fun _ => ⟨rfl, rfl⟩⟩
theorem pbeginNil_ok (c : Int) (w : World) : Calls Try.prog 16 #[.pointer none, .int .i64 c] w fun e w' => e = .returned (.int .i64 1) ∧ w' = w := by
  refine u16 ?_
  rw [t16]
  refine ⟨(may_ok _ _ w).mono ?_⟩
  rintro e w' ⟨rfl, rfl⟩
  exact ⟨_, rfl, fun _ => ⟨rfl, rfl⟩, fun h => by simp [mayE] at h⟩
theorem pputNil_ok (c : Int) (i : Int) (n : Int) (w : World) : Calls Try.prog 18 #[.pointer none, .int .i64 c, .int .i64 i, .int .i64 n] w fun e w' => e = .returned (.int .i64 1) ∧ w' = w := by
  refine u18 ?_
  rw [t18]
  refine ⟨(may_ok _ _ w).mono ?_⟩
  rintro e w' ⟨rfl, rfl⟩
  exact ⟨_, rfl, fun _ => ⟨rfl, rfl⟩, fun h => by simp [mayE] at h⟩
theorem pendNil_ok (c : Int) (w : World) : Calls Try.prog 20 #[.pointer none, .int .i64 c] w fun e w' => e = .returned (.int .i64 1) ∧ w' = w := by
  refine u20 ?_
  rw [t20]
  refine ⟨(may_ok _ _ w).mono ?_⟩
  rintro e w' ⟨rfl, rfl⟩
  exact ⟨_, rfl, fun _ => ⟨rfl, rfl⟩, fun h => by simp [mayE] at h⟩
theorem pstartNil_ok  (w : World) : Calls Try.prog 22 #[.pointer none] w fun e w' => e = .returned (.tuple #[.int .i64 0, .int .i64 1]) ∧ w' = w := by
  refine u22 ?_
  rw [t22]
  first | exact ⟨fun _ => ⟨rfl, rfl⟩, fun h => by simp at h⟩ | exact ⟨fun h => by simp at h, fun _ => ⟨rfl, rfl⟩⟩
theorem pgetNil_ok (i : Int) (w : World) : Calls Try.prog 24 #[.pointer none, .int .i64 i] w fun e w' => e = .returned (.int .i64 0) ∧ w' = w := by
  refine u24 ?_
  rw [t24]
  first | exact ⟨fun _ => ⟨rfl, rfl⟩, fun h => by simp at h⟩ | exact ⟨fun h => by simp at h, fun _ => ⟨rfl, rfl⟩⟩
theorem pagainNil_ok (n : Int) (w : World) : Calls Try.prog 26 #[.pointer none, .int .i64 n] w fun e w' => e = .returned (.bool true) ∧ w' = w := by
  refine u26 ?_
  rw [t26]
  first | exact ⟨fun _ => ⟨rfl, rfl⟩, fun h => by simp at h⟩ | exact ⟨fun h => by simp at h, fun _ => ⟨rfl, rfl⟩⟩

theorem lockNil_ok {W : World} {c n : Int} (_ : (Lit.int .i64 c).wf = true) (_ : (Lit.int .i64 n).wf = true) : Calls Try.prog 7 #[.int .i64 c, .int .i64 n] W fun e w' => e = .returned (.bool true) ∧ Upd no W w' := by
  refine u7 ?_
  rw [t7]
  refine ⟨(ownerNil_ok _).mono ?_⟩
  rintro e w2 ⟨rfl, rfl⟩
  refine ⟨_, _, rfl, ?_⟩
  refine ⟨(pstartNil_ok _).mono ?_⟩
  rintro e w2 ⟨rfl, rfl⟩
  refine ⟨_, _, rfl, ?_⟩
  refine ⟨(takeNil_ok _ _).mono ?_⟩
  rintro e w2 ⟨rfl, rfl⟩
  refine ⟨_, rfl, ?_⟩
  refine ⟨fun g1 => ?_, fun g1 => ?_⟩
  · refine ⟨(leaveNil_ok _ _).mono ?_⟩
    rintro e w2 ⟨rfl, rfl⟩
    refine ⟨_, rfl, ?_⟩
    refine ⟨fun g2 => ?_, fun g2 => ?_⟩
    · refine ⟨fun g3 => ?_, fun g3 => ?_⟩
      · refine ⟨(waitsNil_ok _).mono ?_⟩
        rintro e w2 ⟨rfl, rfl⟩
        refine ⟨_, _, _, rfl, ?_⟩
        refine ⟨fun g4 => ?_, fun g4 => ?_⟩
        · refine ⟨(pbeginNil_ok _ _).mono ?_⟩
          rintro e w2 ⟨rfl, rfl⟩
          refine ⟨_, rfl, ?_⟩
          refine ⟨fun g5 => ?_, fun g5 => ?_⟩
          · refine ⟨(pputNil_ok _ _ _ _).mono ?_⟩
            rintro e w2 ⟨rfl, rfl⟩
            refine ⟨_, rfl, ?_⟩
            refine ⟨fun g6 => ?_, fun g6 => ?_⟩
            · refine ⟨(pendNil_ok _ _).mono ?_⟩
              rintro e w2 ⟨rfl, rfl⟩
              refine ⟨_, rfl, ?_⟩
              refine ⟨fun g7 => ?_, fun g7 => ?_⟩
              · refine ⟨fun g8 => ?_, fun g8 => ?_⟩
                · refine ⟨(pgetNil_ok _ _).mono ?_⟩
                  rintro e w2 ⟨rfl, rfl⟩
                  refine ⟨_, rfl, ?_⟩
                  refine ⟨fun g9 => ?_, fun g9 => ?_⟩
                  · refine ⟨(pagainNil_ok _ _).mono ?_⟩
                    rintro e w2 ⟨rfl, rfl⟩
                    refine ⟨_, rfl, ?_⟩
                    refine ⟨fun g10 => ?_, fun g10 => ?_⟩
                    · refine ⟨(known_ok _).mono ?_⟩
                      rintro e w2 ⟨rfl, hU⟩
                      refine ⟨_, rfl, ?_⟩
                      exact ⟨rfl, hU⟩
                    · exact absurd g10 (by decide)
                  · exact absurd g9 (by decide)
                · exact absurd g8 (by decide)
              · exact absurd g7 (by decide)
            · exact absurd g6 (by decide)
          · exact absurd g5 (by decide)
        · exact absurd g4 (by decide)
      · exact absurd g3 (by decide)
    · exact absurd g2 (by decide)
  · exact absurd g1 (by decide)

theorem r5_3 {W w : World} {p : Option Addr} {n c : Nat} {b1 b2 b3 : Nat} {i stamp : Int} {s : Pr} {x : Int × Int × Int × Int} {B : Env → World → Prop}
    (hM : Mine W w (Star (Star (PpO b1) (PqO b2)) (Rw b3 50 recIIII)) ((s, s), x))
    (hB : ∀ w', Mine W w' (Star (PpO b1) (PqO b2)) (s, s) → B (e5_1 p n c stamp (some ⟨b1, 0, none⟩) (some ⟨b2, 0, none⟩) (IntKind.wrap .i64 (i + 1))) w') :
    CutD Try.prog M5 c5_3 (e5_3 p n c stamp (some ⟨b1, 0, none⟩) (some ⟨b2, 0, none⟩) i ⟨b3, 0, none⟩) w (k5_3 B fun e w' => e = .returned (.bool true) ∧ Upd no W w') := by
  refine CutD.mk ?_
  rw [t5_3]
  intro w1 q1 q2 q3 q4
  replace hM := hM.upd (Upd.same no q1 q2 q3 q4)
  refine ⟨_, rfl, ?_⟩
  refine ⟨_,  (atBlk hM.lr).cell rfl, ?_⟩
  obtain ⟨_, hA, hT⟩ := hM.ll
  refine ⟨(pget_ok hA _).mono ?_⟩
  rintro e w2 ⟨rfl, rfl⟩
  clear hA hT
  refine ⟨_, rfl, ?_⟩
  refine ⟨(atBlk hM.lr).cell rfl, ?_⟩
  refine ⟨fun g1 => ?_, fun g1 => ?_⟩
  · refine ⟨_, rfl, ?_⟩
    refine ⟨_,  (atBlk hM.lr).cell rfl, ?_⟩
    obtain ⟨_, hA, hT⟩ := hM.ll
    refine ⟨(pget_ok hA _).mono ?_⟩
    rintro e w2 ⟨rfl, rfl⟩
    clear hA hT
    refine ⟨_, rfl, ?_⟩
    refine ⟨(atBlk hM.lr).cell rfl, ?_⟩
    refine ⟨fun g2 => ?_, fun g2 => ?_⟩
    · refine ⟨_,  (atBlk hM.right).cell rfl, ?_⟩
      refine ⟨_,  (atBlk hM.right).cell rfl, ?_⟩
      obtain ⟨_, hA, hT⟩ := hM.ll
      refine ⟨(pget_ok hA _).mono ?_⟩
      rintro e w2 ⟨rfl, rfl⟩
      clear hA hT
      refine ⟨_, rfl, ?_⟩
      refine ⟨(atBlk hM.right).cell rfl, ?_⟩
      obtain ⟨_, hA, hT⟩ := hM.lr
      refine ⟨(qget_ok hA _).mono ?_⟩
      rintro e w2 ⟨rfl, rfl⟩
      clear hA hT
      refine ⟨_, rfl, ?_⟩
      refine ⟨fun g3 => ?_, fun g3 => ?_⟩
      · refine ⟨_, rfl, ?_⟩
        refine ⟨_,  (atBlk hM.lr).cell rfl, ?_⟩
        obtain ⟨_, hA, hT⟩ := hM.ll
        refine ⟨(pagain_ok hA _).mono ?_⟩
        rintro e w2 ⟨rfl, rfl⟩
        clear hA hT
        refine ⟨_, rfl, ?_⟩
        refine ⟨(atBlk hM.lr).cell rfl, ?_⟩
        refine ⟨fun g4 => ?_, fun g4 => ?_⟩
        · first | (simp only [get0, get1, bne_comm (a := s.st)] at g4; simp at g4; done) | (simp [get0, get1, bne_comm (a := s.st)] at g4; done) | (simp [get0, get1, bne_comm (a := s.st)] at g4; omega)
        · exact hB _ hM.drop
      · first | (simp only [get0, get1, bne_comm (a := s.st)] at g3; simp at g3; done) | (simp [get0, get1, bne_comm (a := s.st)] at g3; done) | (simp [get0, get1, bne_comm (a := s.st)] at g3; omega)
    · first | (simp only [get0, get1, bne_comm (a := s.st)] at g2; simp at g2; done) | (simp [get0, get1, bne_comm (a := s.st)] at g2; done) | (simp [get0, get1, bne_comm (a := s.st)] at g2; omega)
  · first | (simp only [get0, get1, bne_comm (a := s.st)] at g1; simp at g1; done) | (simp [get0, get1, bne_comm (a := s.st)] at g1; done) | (simp [get0, get1, bne_comm (a := s.st)] at g1; omega)

theorem lockPairs_ok {W : World} {p : Option Addr} {l : List (Int × Int × Int × Int)} {c : Nat} {stamp : Int} (_ : ∀ x ∈ l, okIIII x) (h : Cells W p (l.flatMap recIIII)) (_ : l.length ≤ maxLen) (_ : (Lit.int .i64 stamp).wf = true) :
    Calls Try.prog 5 #[.slice p l.length c, .int .i64 stamp] W fun e w' => e = .returned (.bool true) ∧ Upd no W w' := by
  refine u5 ?_
  rw [t5]
  refine ⟨fun w1 hN1 => ⟨fun w2 hN2 => ?_⟩⟩
  have hM : Mine W w1 (PpO W.heap.size) ⟨0, 0, 0, 0⟩ := Mine.new (Upd.refl _ _) (hN1.upd no) (Rw.new hN1 rfl) (fun _ h => Nat.le_of_eq h.symm)
  replace hM : Mine W w2 (Star (PpO W.heap.size) (PqO w1.heap.size)) (⟨0, 0, 0, 0⟩, ⟨0, 0, 0, 0⟩) := hM.add (hN2.upd no) (Rw.new hN2 rfl) (fun _ h => Nat.le_of_eq h.symm)
  generalize w1.heap.size = b2 at hM ⊢
  generalize hb1 : W.heap.size = b1 at hM ⊢
  refine ⟨WP_loop okProg (M := M5) (σ := Nat × Pr) (fun x => e5_1 p l.length c stamp (some ⟨b1, 0, none⟩) (some ⟨b2, 0, none⟩) (x.1 : Int))
    (fun x w => x.1 ≤ l.length ∧ x.1 ≤ 200 ∧ x.2.ok ∧ x.2.st ≤ (x.1 : Int) ∧ Mine W w (Star (PpO b1) (PqO b2)) (x.2, x.2)) (fun x _ => l.length - x.1) (0, ⟨0, 0, 0, 0⟩) ⟨rfl, rfl, rfl, rfl, rfl, trivial⟩
    ⟨by simp, by simp, ⟨by decide, by decide⟩, by decide, hM⟩ ?_⟩
  clear hM hN1 hN2
  rintro ⟨i, s⟩ w ⟨h1, h2, hk, hs, hM⟩
  simp only at h1 h2 hk hs hM ⊢
  have hgo : CutD Try.prog M5 c5_0 e5_0 w (k5_0 fun e w' => e = .returned (.bool true) ∧ Upd no W w') := by
    refine CutD.mk ?_
    rw [t5_0]
    refine ⟨(known_ok w).mono ?_⟩
    rintro e w' ⟨rfl, hU⟩
    exact ⟨_, rfl, rfl, hM.U.and hU⟩
  have hi3 : (i : Int) ≤ 1000 := by omega
  rw [t5_1]
  refine ⟨fun g1 => ?_, fun g1 => ?_⟩
  · refine ⟨fun g2 => ?_, fun g2 => ?_⟩
    · have hi : i < l.length := by simpa using g1
      have hi2 : i < 200 := by simp at g2; omega
      refine ⟨⟨by omega, by omega⟩, ?_⟩
      obtain ⟨_, ha, hc⟩ := (h.no hM.U).atk recIIII_len (by decide) hi
      cases ha
      refine ⟨_, rfl, ?_⟩
      refine ⟨_,  hc 0 _ rfl, ?_⟩
      refine ⟨_,  hc 1 _ rfl, ?_⟩
      refine ⟨_,  hc 2 _ rfl, ?_⟩
      refine ⟨_,  hc 3 _ rfl, ?_⟩
      refine ⟨fun w2 hN => ?_⟩
      replace hM := hM.add (hN.upd no) (Rw.new (enc := recIIII) (s := (0, 0, 0, 0)) hN rfl) (fun _ h => Nat.le_of_eq h.symm)
      obtain ⟨_, hA, hT⟩ := hM.right
      refine hA.blk.wr0 (by simp [recIIII]) fun w3 hW => ?_
      replace hM := hT _ (l[i]) (hA.turned hW.U hW.blk')
      clear hA hT hW
      refine ⟨_,  (atBlk hM.right).cell rfl, ?_⟩
      refine ⟨by decide, ?_⟩
      refine ⟨fun g3 => ?_, fun g3 => ?_⟩
      · intro w1 q1 q2 q3 q4
        replace hM := hM.upd (Upd.same no q1 q2 q3 q4)
        refine ⟨_,  (atBlk hM.right).cell rfl, ?_⟩
        refine ⟨_,  (atBlk hM.right).cell rfl, ?_⟩
        obtain ⟨_, hA, hT⟩ := hM.ll
        refine ⟨(pbegin_ok hA hk _).mono ?_⟩
        rintro e w2 ⟨rfl, hU⟩
        replace hM := hT _ _ hU
        clear hA hT hU
        refine ⟨_, rfl, ?_⟩
        refine ⟨(atBlk hM.right).cell rfl, ?_⟩
        obtain ⟨_, hA, hT⟩ := hM.lr
        refine ⟨(qbegin_ok hA hk _).mono ?_⟩
        rintro e w2 ⟨rfl, hU⟩
        replace hM := hT _ _ hU
        clear hA hT hU
        refine ⟨_, rfl, ?_⟩
        refine ⟨fun g4 => ?_, fun g4 => ?_⟩
        · simp at g4
        · refine r5_3 hM fun w4 hM => ?_
          exact ⟨(i + 1, (beginS s l[i].2.1)), ⟨rfl, rfl, rfl, rfl, by rw [w64 (by omega)]; rfl, trivial⟩, ⟨by simp only; omega, by simp only; omega, (begin_ok hk hs hi3).1, (begin_ok hk hs hi3).2, hM⟩, by simp only; omega⟩
      · refine ⟨fun g5 => ?_, fun g5 => ?_⟩
        · intro w1 q1 q2 q3 q4
          replace hM := hM.upd (Upd.same no q1 q2 q3 q4)
          refine ⟨_,  (atBlk hM.right).cell rfl, ?_⟩
          refine ⟨_,  (atBlk hM.right).cell rfl, ?_⟩
          refine ⟨_,  (atBlk hM.right).cell rfl, ?_⟩
          refine ⟨_,  (atBlk hM.right).cell rfl, ?_⟩
          refine ⟨_,  (atBlk hM.right).cell rfl, ?_⟩
          refine ⟨_,  (atBlk hM.right).cell rfl, ?_⟩
          obtain ⟨_, hA, hT⟩ := hM.ll
          refine ⟨(pput_ok hA hk _ _ _).mono ?_⟩
          rintro e w2 ⟨rfl, hU⟩
          replace hM := hT _ _ hU
          clear hA hT hU
          refine ⟨_, rfl, ?_⟩
          refine ⟨(atBlk hM.right).cell rfl, ?_⟩
          refine ⟨(atBlk hM.right).cell rfl, ?_⟩
          refine ⟨(atBlk hM.right).cell rfl, ?_⟩
          obtain ⟨_, hA, hT⟩ := hM.lr
          refine ⟨(qput_ok hA hk _ _ _).mono ?_⟩
          rintro e w2 ⟨rfl, hU⟩
          replace hM := hT _ _ hU
          clear hA hT hU
          refine ⟨_, rfl, ?_⟩
          refine ⟨fun g6 => ?_, fun g6 => ?_⟩
          · simp at g6
          · refine r5_3 hM fun w4 hM => ?_
            exact ⟨(i + 1, (putS s l[i].2.1 l[i].2.2.1 l[i].2.2.2)), ⟨rfl, rfl, rfl, rfl, by rw [w64 (by omega)]; rfl, trivial⟩, ⟨by simp only; omega, by simp only; omega, (put_ok hk hs).1, (put_ok hk hs).2, hM⟩, by simp only; omega⟩
        · refine ⟨fun g7 => ?_, fun g7 => ?_⟩
          · intro w1 q1 q2 q3 q4
            replace hM := hM.upd (Upd.same no q1 q2 q3 q4)
            refine ⟨_,  (atBlk hM.right).cell rfl, ?_⟩
            refine ⟨_,  (atBlk hM.right).cell rfl, ?_⟩
            obtain ⟨_, hA, hT⟩ := hM.ll
            refine ⟨(pend_ok hA hk _).mono ?_⟩
            rintro e w2 ⟨rfl, hU⟩
            replace hM := hT _ _ hU
            clear hA hT hU
            refine ⟨_, rfl, ?_⟩
            refine ⟨(atBlk hM.right).cell rfl, ?_⟩
            obtain ⟨_, hA, hT⟩ := hM.lr
            refine ⟨(qend_ok hA hk _).mono ?_⟩
            rintro e w2 ⟨rfl, hU⟩
            replace hM := hT _ _ hU
            clear hA hT hU
            refine ⟨_, rfl, ?_⟩
            refine ⟨fun g8 => ?_, fun g8 => ?_⟩
            · simp at g8
            · refine r5_3 hM fun w4 hM => ?_
              exact ⟨(i + 1, (endS s l[i].2.1)), ⟨rfl, rfl, rfl, rfl, by rw [w64 (by omega)]; rfl, trivial⟩, ⟨by simp only; omega, by simp only; omega, (end_ok hk hs hi3).1, (end_ok hk hs hi3).2, hM⟩, by simp only; omega⟩
          · obtain ⟨_, hA, hT⟩ := hM.ll
            refine ⟨(pstart_ok hA hk).mono ?_⟩
            rintro e w2 ⟨rfl, rfl⟩
            clear hA hT
            refine ⟨_, _, rfl, ?_⟩
            obtain ⟨_, hA, hT⟩ := hM.lr
            refine ⟨(qstart_ok hA hk).mono ?_⟩
            rintro e w2 ⟨rfl, rfl⟩
            clear hA hT
            refine ⟨_, _, rfl, ?_⟩
            refine ⟨fun g9 => ?_, fun g9 => ?_⟩
            · refine ⟨fun g10 => ?_, fun g10 => ?_⟩
              · simp at g10
              · refine r5_3 hM fun w4 hM => ?_
                exact ⟨(i + 1, s), ⟨rfl, rfl, rfl, rfl, by rw [w64 (by omega)]; rfl, trivial⟩, ⟨by simp only; omega, by simp only; omega, hk, (by simp only; omega), hM⟩, by simp only; omega⟩
            · simp at g9
    · exact hgo
  · exact hgo

theorem start_ok {s : Pr} (h : ((startE s).2 == 0) = true) : ¬ odd s = true := fun h1 => by simp [startE, h1] at h
theorem begin_inv {s : Pr} {a b : Int} {c : Int} (h : ¬ odd s = true → a = s.a ∧ b = s.b) : ¬ odd (beginS s c) = true → a = (beginS s c).a ∧ b = (beginS s c).b := by
  unfold beginS
  split
  · rename_i h0
    intro h1
    refine absurd ?_ h1
    have : ¬ odd s = true := fun h2 => by unfold beginE at h0; split at h0 <;> simp_all
    unfold odd at this ⊢
    simp at this ⊢
    omega
  · exact h
theorem put_inv {s : Pr} {a b : Int} {c i n : Int} (h : ¬ odd s = true → a = s.a ∧ b = s.b) : ¬ odd (putS s c i n) = true → a = (putS s c i n).a ∧ b = (putS s c i n).b := by
  unfold putS
  split
  · rename_i h0
    have : odd s = true := by
      cases h2 : odd s
      · have : pown s c = false := by simp [pown, h2]
        unfold putE at h0
        simp only [this] at h0
        split at h0
        · cases h0
        · split at h0 <;> cases h0
      · rfl
    intro h1
    refine absurd ?_ h1
    split <;> exact this
  · exact h
theorem end_inv {s : Pr} {a b : Int} {c : Int} (h : ¬ odd s = true → a = s.a ∧ b = s.b) (he : ¬ endE s c = 0) : ¬ odd (endS s c) = true → a = (endS s c).a ∧ b = (endS s c).b := by
  rw [endS, if_neg he]
  exact h

theorem lockWhole_ok {W : World} {p : Option Addr} {l : List (Int × Int × Int × Int)} {c : Nat} (_ : ∀ x ∈ l, okIIII x) (h : Cells W p (l.flatMap recIIII)) (_ : l.length ≤ maxLen) :
    Calls Try.prog 6 #[.slice p l.length c] W fun e w' => e = .returned (.bool true) ∧ Upd no W w' := by
  refine u6 ?_
  rw [t6]
  refine ⟨fun w1 hN1 => ?_⟩
  have hM : Mine W w1 (PpO W.heap.size) ⟨0, 0, 0, 0⟩ := Mine.new (Upd.refl _ _) (hN1.upd no) (Rw.new hN1 rfl) (fun _ h => Nat.le_of_eq h.symm)
  generalize hb1 : W.heap.size = b1 at hM ⊢
  refine ⟨WP_loop okProg (M := M6) (σ := Nat × Pr × Int × Int) (fun x => e6_1 p l.length c (some ⟨b1, 0, none⟩) x.2.2.1 x.2.2.2 (x.1 : Int))
    (fun x w => x.1 ≤ l.length ∧ x.1 ≤ 200 ∧ x.2.1.ok ∧ x.2.1.st ≤ (x.1 : Int) ∧ (¬ odd x.2.1 = true → x.2.2.1 = x.2.1.a ∧ x.2.2.2 = x.2.1.b) ∧ Mine W w (PpO b1) x.2.1) (fun x _ => l.length - x.1) (0, ⟨0, 0, 0, 0⟩, 0, 0) ⟨rfl, rfl, rfl, rfl, rfl, trivial⟩
    ⟨by simp, by simp, ⟨by decide, by decide⟩, by decide, fun _ => ⟨rfl, rfl⟩, hM⟩ ?_⟩
  clear hM hN1
  rintro ⟨i, s, a, b⟩ w ⟨h1, h2, hk, hs, hI, hM⟩
  simp only at h1 h2 hk hs hI hM ⊢
  have hgo : CutD Try.prog M6 c6_0 e6_0 w (k6_0 fun e w' => e = .returned (.bool true) ∧ Upd no W w') := by
    refine CutD.mk ?_
    rw [t6_0]
    refine ⟨(known_ok w).mono ?_⟩
    rintro e w' ⟨rfl, hU⟩
    exact ⟨_, rfl, rfl, hM.U.and hU⟩
  have hi3 : (i : Int) ≤ 1000 := by omega
  rw [t6_1]
  refine ⟨fun g1 => ?_, fun g1 => ?_⟩
  · refine ⟨fun g2 => ?_, fun g2 => ?_⟩
    · have hi : i < l.length := by simpa using g1
      have hi2 : i < 200 := by simp at g2; omega
      refine ⟨⟨by omega, by omega⟩, ?_⟩
      obtain ⟨_, ha, hc⟩ := (h.no hM.U).atk recIIII_len (by decide) hi
      cases ha
      refine ⟨_, rfl, ?_⟩
      refine ⟨_,  hc 0 _ rfl, ?_⟩
      refine ⟨_,  hc 1 _ rfl, ?_⟩
      refine ⟨_,  hc 2 _ rfl, ?_⟩
      refine ⟨_,  hc 3 _ rfl, ?_⟩
      refine ⟨fun w2 hN => ?_⟩
      replace hM := hM.add (hN.upd no) (Rw.new (enc := recIIII) (s := (0, 0, 0, 0)) hN rfl) (fun _ h => Nat.le_of_eq h.symm)
      obtain ⟨_, hA, hT⟩ := hM.right
      refine hA.blk.wr0 (by simp [recIIII]) fun w3 hW => ?_
      replace hM := hT _ (l[i]) (hA.turned hW.U hW.blk')
      clear hA hT hW
      refine ⟨_,  (atBlk hM.right).cell rfl, ?_⟩
      refine ⟨by decide, ?_⟩
      refine ⟨fun g3 => ?_, fun g3 => ?_⟩
      · refine ⟨_,  (atBlk hM.right).cell rfl, ?_⟩
        obtain ⟨_, hA, hT⟩ := hM.left
        refine ⟨(pbegin_ok hA hk _).mono ?_⟩
        rintro e w2 ⟨rfl, hU⟩
        replace hM := hT _ _ hU
        clear hA hT hU
        refine ⟨_, rfl, ?_⟩
        exact ⟨(i + 1, (beginS s l[i].2.1), a, b), ⟨rfl, rfl, rfl, rfl, by rw [w64 (by omega)]; rfl, trivial⟩, ⟨by simp only; omega, by simp only; omega, (begin_ok hk hs hi3).1, (begin_ok hk hs hi3).2, begin_inv hI, hM.drop⟩, by simp only; omega⟩
      · refine ⟨fun g4 => ?_, fun g4 => ?_⟩
        · refine ⟨_,  (atBlk hM.right).cell rfl, ?_⟩
          refine ⟨_,  (atBlk hM.right).cell rfl, ?_⟩
          refine ⟨_,  (atBlk hM.right).cell rfl, ?_⟩
          obtain ⟨_, hA, hT⟩ := hM.left
          refine ⟨(pput_ok hA hk _ _ _).mono ?_⟩
          rintro e w2 ⟨rfl, hU⟩
          replace hM := hT _ _ hU
          clear hA hT hU
          refine ⟨_, rfl, ?_⟩
          exact ⟨(i + 1, (putS s l[i].2.1 l[i].2.2.1 l[i].2.2.2), a, b), ⟨rfl, rfl, rfl, rfl, by rw [w64 (by omega)]; rfl, trivial⟩, ⟨by simp only; omega, by simp only; omega, (put_ok hk hs).1, (put_ok hk hs).2, put_inv hI, hM.drop⟩, by simp only; omega⟩
        · refine ⟨fun g5 => ?_, fun g5 => ?_⟩
          · refine ⟨_,  (atBlk hM.right).cell rfl, ?_⟩
            obtain ⟨_, hA, hT⟩ := hM.left
            refine ⟨(pend_ok hA hk _).mono ?_⟩
            rintro e w2 ⟨rfl, hU⟩
            replace hM := hT _ _ hU
            clear hA hT hU
            refine ⟨_, rfl, ?_⟩
            refine ⟨fun g6 => ?_, fun g6 => ?_⟩
            · obtain ⟨_, hA, hT⟩ := hM.left
              refine ⟨(pget_ok hA _).mono ?_⟩
              rintro e w2 ⟨rfl, rfl⟩
              clear hA hT
              refine ⟨_, rfl, ?_⟩
              obtain ⟨_, hA, hT⟩ := hM.left
              refine ⟨(pget_ok hA _).mono ?_⟩
              rintro e w2 ⟨rfl, rfl⟩
              clear hA hT
              refine ⟨_, rfl, ?_⟩
              exact ⟨(i + 1, (endS s l[i].2.1), (getE (endS s l[i].2.1) 0), (getE (endS s l[i].2.1) 1)), ⟨rfl, rfl, rfl, rfl, by rw [w64 (by omega)]; rfl, trivial⟩, ⟨by simp only; omega, by simp only; omega, (end_ok hk hs hi3).1, (end_ok hk hs hi3).2, fun _ => ⟨rfl, rfl⟩, hM.drop⟩, by simp only; omega⟩
            · exact ⟨(i + 1, (endS s l[i].2.1), a, b), ⟨rfl, rfl, rfl, rfl, by rw [w64 (by omega)]; rfl, trivial⟩, ⟨by simp only; omega, by simp only; omega, (end_ok hk hs hi3).1, (end_ok hk hs hi3).2, end_inv hI (by simpa using g6), hM.drop⟩, by simp only; omega⟩
          · obtain ⟨_, hA, hT⟩ := hM.left
            refine ⟨(pstart_ok hA hk).mono ?_⟩
            rintro e w2 ⟨rfl, rfl⟩
            clear hA hT
            refine ⟨_, _, rfl, ?_⟩
            obtain ⟨_, hA, hT⟩ := hM.left
            refine ⟨(pget_ok hA _).mono ?_⟩
            rintro e w2 ⟨rfl, rfl⟩
            clear hA hT
            refine ⟨_, rfl, ?_⟩
            obtain ⟨_, hA, hT⟩ := hM.left
            refine ⟨(pget_ok hA _).mono ?_⟩
            rintro e w2 ⟨rfl, rfl⟩
            clear hA hT
            refine ⟨_, rfl, ?_⟩
            refine ⟨fun g7 => ?_, fun g7 => ?_⟩
            · obtain ⟨_, hA, hT⟩ := hM.left
              refine ⟨(pagain_ok hA _).mono ?_⟩
              rintro e w2 ⟨rfl, rfl⟩
              clear hA hT
              refine ⟨_, rfl, ?_⟩
              refine ⟨fun g8 => ?_, fun g8 => ?_⟩
              · refine ⟨fun g9 => ?_, fun g9 => ?_⟩
                · refine ⟨fun g10 => ?_, fun g10 => ?_⟩
                  · obtain ⟨rfl, rfl⟩ := hI (start_ok g7)
                    simp [getE] at g10
                  · exact ⟨(i + 1, s, a, b), ⟨rfl, rfl, rfl, rfl, by rw [w64 (by omega)]; rfl, trivial⟩, ⟨by simp only; omega, by simp only; omega, hk, (by simp only; omega), hI, hM.drop⟩, by simp only; omega⟩
                · obtain ⟨rfl, rfl⟩ := hI (start_ok g7)
                  simp [getE] at g9
              · exact ⟨(i + 1, s, a, b), ⟨rfl, rfl, rfl, rfl, by rw [w64 (by omega)]; rfl, trivial⟩, ⟨by simp only; omega, by simp only; omega, hk, (by simp only; omega), hI, hM.drop⟩, by simp only; omega⟩
            · exact ⟨(i + 1, s, a, b), ⟨rfl, rfl, rfl, rfl, by rw [w64 (by omega)]; rfl, trivial⟩, ⟨by simp only; omega, by simp only; omega, hk, (by simp only; omega), hI, hM.drop⟩, by simp only; omega⟩
    · exact hgo
  · exact hgo
end Go.Dav
