/- The statements on the cores' queues: what their functions come to. -/
import Derived.Test.YtgakbnonkgohfaaDoorRRunq10d
import Derived.Test.YtgakbnonkgohfaaDoorRqNil10d
set_option linter.unusedSimpArgs false
set_option linter.unusedVariables false
namespace Go.Dav
open Go.Proofs
theorem known_ok (w : World) : Calls Tryd.prog 7 #[] w fun e w' => e = .returned (.bool true) ∧ Upd no w w' := by
  refine u7 ?_
  rw [t7]
  refine ⟨(rqnew_ok _ _).mono ?_⟩
  rintro e w2 hh
  obtain ⟨_, b1, F1, rfl, hQ, hU, hF⟩ := hh.resolve_left (fun h => absurd (by unfold okRq; decide) h.1)
  have hM : Mine w w2 (RqO b1) (List.replicate 2 (32, [])) := Mine.new (Upd.refl _ _) hU hQ hF
  clear hU hQ hF
  refine ⟨_, _, rfl, ?_⟩
  refine ⟨fun g1 => ?_, fun g1 => ?_⟩
  · refine ⟨fun g2 => ?_, fun g2 => ?_⟩
    · first | exact absurd g2 (by decide +kernel) | (simp at g2; done)
    · obtain ⟨_, hA, hT⟩ := hM.turn
      refine ⟨(rqput_ok hA _ _ _).mono ?_⟩
      rintro e w2 ⟨rfl, hU⟩
      replace hM := hT _ _ hU
      clear hA hT hU
      refine ⟨_, rfl, ?_⟩
      obtain ⟨_, hA, hT⟩ := hM.turn
      refine ⟨(rqput_ok hA _ _ _).mono ?_⟩
      rintro e w2 ⟨rfl, hU⟩
      replace hM := hT _ _ hU
      clear hA hT hU
      refine ⟨_, rfl, ?_⟩
      obtain ⟨_, hA, hT⟩ := hM.turn
      refine ⟨(rqpick_ok hA _).mono ?_⟩
      rintro e w2 ⟨rfl, hU⟩
      replace hM := hT _ _ hU
      clear hA hT hU
      refine ⟨_, _, rfl, ?_⟩
      obtain ⟨_, hA, hT⟩ := hM.turn
      refine ⟨(rqmove_ok hA _ _).mono ?_⟩
      rintro e w2 ⟨rfl, hU⟩
      replace hM := hT _ _ hU
      clear hA hT hU
      refine ⟨_, _, rfl, ?_⟩
      obtain ⟨_, hA, hT⟩ := hM.turn
      refine ⟨(rqwhere_ok hA _).mono ?_⟩
      rintro e w2 ⟨rfl, rfl⟩
      clear hA hT
      refine ⟨_, _, rfl, ?_⟩
      refine ⟨fun g3 => ?_, fun g3 => ?_⟩
      · refine ⟨fun g4 => ?_, fun g4 => ?_⟩
        · refine ⟨fun g5 => ?_, fun g5 => ?_⟩
          · refine ⟨fun g6 => ?_, fun g6 => ?_⟩
            · refine ⟨fun g7 => ?_, fun g7 => ?_⟩
              · refine ⟨fun g8 => ?_, fun g8 => ?_⟩
                · obtain ⟨_, hA, hT⟩ := hM.turn
                  refine ⟨(rqload_ok hA _).mono ?_⟩
                  rintro e w2 ⟨rfl, rfl⟩
                  clear hA hT
                  refine ⟨_, rfl, ?_⟩
                  exact ⟨congrArg (fun b => Ending.returned (Value.bool b)) (by decide +kernel), hM.U⟩
                · first | exact absurd g8 (by decide +kernel) | (simp at g8; done)
              · first | exact absurd g7 (by decide +kernel) | (simp at g7; done)
            · first | exact absurd g6 (by decide +kernel) | (simp at g6; done)
          · first | exact absurd g5 (by decide +kernel) | (simp at g5; done)
        · first | exact absurd g4 (by decide +kernel) | (simp at g4; done)
      · first | exact absurd g3 (by decide +kernel) | (simp at g3; done)
  · first | exact absurd g1 (by decide +kernel) | (simp at g1; done)

theorem rqlistC_ok {w : World} {F : Fp} {b : Nat} {x : RS} (h : RqO b w F x) (c : Int) : Calls Tryd.prog 16 #[.pointer (some ⟨b, 0, none⟩), .int .i64 c] w fun e w' => ∃ p d, e = .returned (.slice p (rqListE x c).length d) ∧ Cells w' p ((rqListE x c).map (Value.int .i64)) ∧ Upd no w w' :=
  (rqlist_ok h c).mono fun _ _ ⟨p, c, he, hL⟩ => ⟨p, c, he, hL.S.cells, hL.U⟩
theorem rrListC_ok {w : World} {F : Fp} {b : Nat} {x : RS} (h : RrO b w F x) (hW : RqW x) (c : Int) : Calls Tryd.prog 17 #[.pointer (some ⟨b, 0, none⟩), .int .i64 c] w fun e w' => ∃ p d, e = .returned (.slice p (rqListE x c).length d) ∧ Cells w' p ((rqListE x c).map (Value.int .i64)) ∧ Upd no w w' :=
  (rrList_ok h hW c).mono fun _ _ ⟨p, c, he, hL⟩ => ⟨p, c, he, hL.S.cells, hL.U⟩
theorem rqlist_le {x : RS} (hW : RqW x) (c : Int) : (rqListE x c).length ≤ 140737488355328 := by
  unfold rqListE
  split
  · rename_i h
    obtain ⟨i, hi, rfl⟩ := inQ_at h
    rw [rowQ_at hi, list_all (hW.V i hi)]
    have := (hW.V i hi).len
    omega
  · simp

theorem runqNil_ok {W : World} (hTab : Tab W) {c n : Int} (_ : (Lit.int .i64 c).wf = true) (_ : (Lit.int .i64 n).wf = true) : Calls Tryd.prog 4 #[.int .i64 c, .int .i64 n] W fun e w' => e = .returned (.bool true) ∧ Upd no W w' := by
  refine u4 ?_
  rw [t4]
  refine ⟨(rqpickNil_ok _ _).mono ?_⟩
  rintro e w2 ⟨rfl, rfl⟩
  refine ⟨_, _, rfl, ?_⟩
  refine ⟨(rqwhereNil_ok _ _).mono ?_⟩
  rintro e w2 ⟨rfl, rfl⟩
  refine ⟨_, _, rfl, ?_⟩
  refine ⟨(rqbusyNil_ok _ _).mono ?_⟩
  rintro e w2 ⟨rfl, rfl⟩
  refine ⟨_, _, rfl, ?_⟩
  refine ⟨(rqidleNil_ok _ _).mono ?_⟩
  rintro e w2 ⟨rfl, rfl⟩
  refine ⟨_, _, rfl, ?_⟩
  refine ⟨(rqmoveNil_ok _ _ _).mono ?_⟩
  rintro e w2 ⟨rfl, rfl⟩
  refine ⟨_, _, rfl, ?_⟩
  refine ⟨(rqprioNil_ok _ _).mono ?_⟩
  rintro e w2 ⟨rfl, rfl⟩
  refine ⟨_, _, rfl, ?_⟩
  refine ⟨(rqputNil_ok _ _ _ _).mono ?_⟩
  rintro e w2 ⟨rfl, rfl⟩
  refine ⟨_, rfl, ?_⟩
  refine ⟨fun g1 => ?_, fun g1 => ?_⟩
  · refine ⟨fun g2 => ?_, fun g2 => ?_⟩
    · refine ⟨(rqbackNil_ok _ _).mono ?_⟩
      rintro e w2 ⟨rfl, rfl⟩
      refine ⟨_, rfl, ?_⟩
      refine ⟨fun g3 => ?_, fun g3 => ?_⟩
      · refine ⟨(rqtakeNil_ok _ _).mono ?_⟩
        rintro e w2 ⟨rfl, rfl⟩
        refine ⟨_, rfl, ?_⟩
        refine ⟨fun g4 => ?_, fun g4 => ?_⟩
        · refine ⟨fun g5 => ?_, fun g5 => ?_⟩
          · refine ⟨(rqloadNil_ok _ _).mono ?_⟩
            rintro e w2 ⟨rfl, rfl⟩
            refine ⟨_, rfl, ?_⟩
            refine ⟨fun g6 => ?_, fun g6 => ?_⟩
            · refine ⟨fun g7 => ?_, fun g7 => ?_⟩
              · refine ⟨fun g8 => ?_, fun g8 => ?_⟩
                · refine ⟨fun g9 => ?_, fun g9 => ?_⟩
                  · refine ⟨fun g10 => ?_, fun g10 => ?_⟩
                    · refine ⟨(rqlistNil_ok _ _).mono ?_⟩
                      rintro e w2 ⟨rfl, rfl⟩
                      refine ⟨_, _, _, rfl, ?_⟩
                      refine ⟨fun g11 => ?_, fun g11 => ?_⟩
                      · refine ⟨(known_ok _).mono ?_⟩
                        rintro e w2 ⟨rfl, hU⟩
                        refine ⟨_, rfl, ?_⟩
                        exact ⟨rfl, hU⟩
                      · exact absurd g11 (by decide)
                    · exact absurd g10 (by decide)
                  · exact absurd g9 (by decide)
                · exact absurd g8 (by decide)
              · exact absurd g7 (by decide)
            · exact absurd g6 (by decide)
          · exact absurd g5 (by decide)
        · exact absurd g4 (by decide)
      · exact absurd g3 (by decide)
    · exact absurd g2 (by decide)
  · exact absurd g1 (by decide)

/-- What an act makes of the queues. -/
def actQ (x : RS) (a : Int × Int × Int × Int × Int) : RS :=
  if Int.tmod a.1 5 = 0 then rqPutS x a.2.1 a.2.2.2.1 a.2.2.2.2 else if Int.tmod a.1 5 = 1 then rqPickS x a.2.1 else if Int.tmod a.1 5 = 2 then rqBackS x a.2.2.2.2 else if Int.tmod a.1 5 = 3 then rqTakeS x a.2.2.2.2 else rqMoveS x a.2.1 a.2.2.1
theorem do_ok {w : World} {F : Fp} {b1 b2 : Nat} {x : RS} (h : Star (RqO b1) (RrO b2) w F (x, x)) (a : Int × Int × Int × Int × Int) :
    Calls Tryd.prog 8 #[.pointer (some ⟨b1, 0, none⟩), .pointer (some ⟨b2, 0, none⟩), .agg #[.int .i64 a.1, .int .i64 a.2.1, .int .i64 a.2.2.1, .int .i64 a.2.2.2.1, .int .i64 a.2.2.2.2]] w fun e w' => e = .returned (.bool true) ∧ Turn (Star (RqO b1) (RrO b2)) w w' F (actQ x a, actQ x a) := by
  refine u8 ?_
  rw [t8]
  obtain ⟨hW, hl⟩ : RqW x ∧ x.length ≤ 64 := by obtain ⟨_, hA, _⟩ := h.left; exact ⟨hA.W, hA.cpus.2⟩
  have hM := Turn.same h
  refine ⟨fun w2 hN => ?_⟩
  replace hM : Turn (Star (Star (RqO b1) (RrO b2)) (Rw w.heap.size 33 recIIIII)) w w2 F ((x, x), a) := hM.add (hN.upd no) (Rw.new (enc := recIIIII) (s := a) hN rfl) (fun _ h => Nat.le_of_eq h.symm)
  generalize w.heap.size = b3 at hM ⊢
  refine ⟨_,  (atBlk hM.right).cell rfl, ?_⟩
  refine ⟨by decide, ?_⟩
  refine ⟨fun g1 => ?_, fun g1 => ?_⟩
  · intro w1 q1 q2 q3 q4
    replace hM := hM.upd (Upd.same no q1 q2 q3 q4)
    refine ⟨_,  (atBlk hM.right).cell rfl, ?_⟩
    refine ⟨_,  (atBlk hM.right).cell rfl, ?_⟩
    refine ⟨_,  (atBlk hM.right).cell rfl, ?_⟩
    refine ⟨_,  (atBlk hM.right).cell rfl, ?_⟩
    refine ⟨_,  (atBlk hM.right).cell rfl, ?_⟩
    refine ⟨_,  (atBlk hM.right).cell rfl, ?_⟩
    obtain ⟨_, hA, hT⟩ := hM.ll
    refine ⟨(rqput_ok hA _ _ _).mono ?_⟩
    rintro e w2 ⟨rfl, hU⟩
    replace hM := hT _ _ hU
    clear hA hT hU
    refine ⟨_, rfl, ?_⟩
    refine ⟨(atBlk hM.right).cell rfl, ?_⟩
    refine ⟨(atBlk hM.right).cell rfl, ?_⟩
    refine ⟨(atBlk hM.right).cell rfl, ?_⟩
    obtain ⟨_, hA, hT⟩ := hM.lr
    refine ⟨(rrPut_ok hA hW hl _ _ _).mono ?_⟩
    rintro e w2 ⟨rfl, hU⟩
    replace hM := hT _ _ hU
    clear hA hT hU
    refine ⟨_, rfl, ?_⟩
    first | (simp at g1; done) | (refine ⟨congrArg (fun b => Ending.returned (Value.bool b)) (beq_self_eq_true _), ?_⟩; have hD := hM.drop; unfold actQ; repeat' (first | exact hD | (exfalso; simp_all; done) | split))
  · refine ⟨fun g2 => ?_, fun g2 => ?_⟩
    · refine ⟨_,  (atBlk hM.right).cell rfl, ?_⟩
      obtain ⟨_, hA, hT⟩ := hM.ll
      refine ⟨(rqpick_ok hA _).mono ?_⟩
      rintro e w2 ⟨rfl, hU⟩
      replace hM := hT _ _ hU
      clear hA hT hU
      refine ⟨_, _, rfl, ?_⟩
      refine ⟨_,  (atBlk hM.right).cell rfl, ?_⟩
      obtain ⟨_, hA, hT⟩ := hM.lr
      refine ⟨(rrPick_ok hA hW _).mono ?_⟩
      rintro e w2 ⟨rfl, hU⟩
      replace hM := hT _ _ hU
      clear hA hT hU
      refine ⟨_, _, rfl, ?_⟩
      refine ⟨fun g3 => ?_, fun g3 => ?_⟩
      · first | (simp at g3; done) | (refine ⟨congrArg (fun b => Ending.returned (Value.bool b)) (beq_self_eq_true _), ?_⟩; have hD := hM.drop; unfold actQ; repeat' (first | exact hD | (exfalso; simp_all; done) | split))
      · first | (simp at g3; done) | (refine ⟨congrArg (fun b => Ending.returned (Value.bool b)) (beq_self_eq_true _), ?_⟩; have hD := hM.drop; unfold actQ; repeat' (first | exact hD | (exfalso; simp_all; done) | split))
    · refine ⟨fun g4 => ?_, fun g4 => ?_⟩
      · intro w1 q1 q2 q3 q4
        replace hM := hM.upd (Upd.same no q1 q2 q3 q4)
        refine ⟨_,  (atBlk hM.right).cell rfl, ?_⟩
        refine ⟨_,  (atBlk hM.right).cell rfl, ?_⟩
        obtain ⟨_, hA, hT⟩ := hM.ll
        refine ⟨(rqback_ok hA _).mono ?_⟩
        rintro e w2 ⟨rfl, hU⟩
        replace hM := hT _ _ hU
        clear hA hT hU
        refine ⟨_, rfl, ?_⟩
        refine ⟨(atBlk hM.right).cell rfl, ?_⟩
        obtain ⟨_, hA, hT⟩ := hM.lr
        refine ⟨(rrBack_ok hA hW hl _).mono ?_⟩
        rintro e w2 ⟨rfl, hU⟩
        replace hM := hT _ _ hU
        clear hA hT hU
        refine ⟨_, rfl, ?_⟩
        first | (simp at g4; done) | (refine ⟨congrArg (fun b => Ending.returned (Value.bool b)) (beq_self_eq_true _), ?_⟩; have hD := hM.drop; unfold actQ; repeat' (first | exact hD | (exfalso; simp_all; done) | split))
      · refine ⟨fun g5 => ?_, fun g5 => ?_⟩
        · intro w1 q1 q2 q3 q4
          replace hM := hM.upd (Upd.same no q1 q2 q3 q4)
          refine ⟨_,  (atBlk hM.right).cell rfl, ?_⟩
          refine ⟨_,  (atBlk hM.right).cell rfl, ?_⟩
          obtain ⟨_, hA, hT⟩ := hM.ll
          refine ⟨(rqtake_ok hA _).mono ?_⟩
          rintro e w2 ⟨rfl, hU⟩
          replace hM := hT _ _ hU
          clear hA hT hU
          refine ⟨_, rfl, ?_⟩
          refine ⟨(atBlk hM.right).cell rfl, ?_⟩
          obtain ⟨_, hA, hT⟩ := hM.lr
          refine ⟨(rrTake_ok hA hW hl _).mono ?_⟩
          rintro e w2 ⟨rfl, hU⟩
          replace hM := hT _ _ hU
          clear hA hT hU
          refine ⟨_, rfl, ?_⟩
          first | (simp at g5; done) | (refine ⟨congrArg (fun b => Ending.returned (Value.bool b)) (beq_self_eq_true _), ?_⟩; have hD := hM.drop; unfold actQ; repeat' (first | exact hD | (exfalso; simp_all; done) | split))
        · refine ⟨_,  (atBlk hM.right).cell rfl, ?_⟩
          refine ⟨_,  (atBlk hM.right).cell rfl, ?_⟩
          obtain ⟨_, hA, hT⟩ := hM.ll
          refine ⟨(rqmove_ok hA _ _).mono ?_⟩
          rintro e w2 ⟨rfl, hU⟩
          replace hM := hT _ _ hU
          clear hA hT hU
          refine ⟨_, _, rfl, ?_⟩
          refine ⟨_,  (atBlk hM.right).cell rfl, ?_⟩
          refine ⟨_,  (atBlk hM.right).cell rfl, ?_⟩
          obtain ⟨_, hA, hT⟩ := hM.lr
          refine ⟨(rrMove_ok hA hW _ _).mono ?_⟩
          rintro e w2 ⟨rfl, hU⟩
          replace hM := hT _ _ hU
          clear hA hT hU
          refine ⟨_, _, rfl, ?_⟩
          refine ⟨fun g6 => ?_, fun g6 => ?_⟩
          · first | (simp at g6; done) | (refine ⟨congrArg (fun b => Ending.returned (Value.bool b)) (beq_self_eq_true _), ?_⟩; have hD := hM.drop; unfold actQ; repeat' (first | exact hD | (exfalso; simp_all; done) | split))
          · first | (simp at g6; done) | (refine ⟨congrArg (fun b => Ending.returned (Value.bool b)) (beq_self_eq_true _), ?_⟩; have hD := hM.drop; unfold actQ; repeat' (first | exact hD | (exfalso; simp_all; done) | split))

theorem runqPlays_ok {W : World} (hTab : Tab W) {cpus : Int} {p : Option Addr} {l : List (Int × Int × Int × Int × Int)} {c : Nat} (_ : (Lit.int .i64 cpus).wf = true) (_ : ∀ x ∈ l, okIIIII x) (h : Cells W p (l.flatMap recIIIII)) (_ : l.length ≤ maxLen) (m : BV) :
    Calls Tryd.prog 3 #[.int .i64 cpus, .slice p l.length c, .int .u64 (mi m)] W fun e w' => e = .returned (.bool true) ∧ Upd no W w' := by
  refine u3 ?_
  rw [t3]
  refine ⟨(rqnew_ok cpus W).mono ?_⟩
  rintro e w1 (⟨hno, rfl, rfl⟩ | ⟨hyes, b1, F1, rfl, hQ, hU, hF⟩)
  · refine ⟨_, _, rfl, ⟨(rrNew_ok cpus w1).mono ?_⟩⟩
    rintro e w2 (⟨_, rfl, rfl⟩ | ⟨h, _⟩)
    · refine ⟨_, _, rfl, fun _ => ⟨fun g => by simp at g, fun _ => ⟨fun _ => ⟨(known_ok _).mono ?_⟩, fun g => by simp at g⟩⟩, fun g => by simp at g⟩
      rintro e w3 ⟨rfl, hU3⟩
      exact ⟨_, rfl, rfl, hU3⟩
    · exact absurd h hno
  · have hM : Mine W w1 (RqO b1) (List.replicate cpus.toNat (32, [])) := Mine.new (Upd.refl _ _) hU hQ hF
    refine ⟨_, _, rfl, ⟨(rrNew_ok cpus w1).mono ?_⟩⟩
    rintro e w2 (⟨h, _⟩ | ⟨_, b2, F2, rfl, hQ2, hU2, hF2⟩)
    · exact absurd hyes h
    · replace hM : Mine W w2 (Star (RqO b1) (RrO b2)) (List.replicate cpus.toNat (32, []), List.replicate cpus.toNat (32, [])) := hM.add hU2 hQ2 hF2
      clear hU hQ hF hU2 hQ2 hF2
      refine ⟨_, _, rfl, fun _ => ⟨fun g => by simp at g, fun _ => ⟨fun g => by simp at g, fun _ => ?_⟩⟩, fun g => by simp at g⟩
      refine ⟨WP_loop okProg (M := M3) (σ := Nat × RS) (fun x => e3_1 p l.length c (mi m) (some ⟨b1, 0, none⟩) (some ⟨b2, 0, none⟩) (x.1 : Int))
        (fun x w => x.1 ≤ l.length ∧ Mine W w (Star (RqO b1) (RrO b2)) (x.2, x.2)) (fun x _ => l.length - x.1) (0, List.replicate cpus.toNat (32, [])) ⟨rfl, rfl, rfl, rfl, rfl, trivial⟩ ⟨by simp, hM⟩ ?_⟩
      clear hM
      rintro ⟨i, x⟩ w ⟨h1, hM⟩
      simp only at h1 hM ⊢
      have hgo : ∀ w, Mine W w (Star (RqO b1) (RrO b2)) (x, x) → CutD Tryd.prog M3 c3_0 (e3_0 (mi m) (some ⟨b1, 0, none⟩) (some ⟨b2, 0, none⟩)) w (k3_0 fun e w' => e = .returned (.bool true) ∧ Upd no W w') := by
        clear hM
        intro w hM
        obtain ⟨hW, hl⟩ : RqW x ∧ x.length ≤ 64 := by obtain ⟨_, hA, _⟩ := hM.left; exact ⟨hA.W, hA.cpus.2⟩
        refine CutD.mk ?_
        rw [t3_0]
        obtain ⟨_, hA, _⟩ := hM.left
        refine ⟨(rqbusy_ok hA (hTab.no hM.U) m).mono ?_⟩
        rintro e w1 ⟨rfl, hU⟩
        replace hM := hM.upd hU
        clear hA hU
        obtain ⟨_, hA, _⟩ := hM.right
        refine ⟨_, _, rfl, ⟨(rrbusy_ok hA hW hl m).mono ?_⟩⟩
        rintro e w1 ⟨rfl, hU⟩
        replace hM := hM.upd hU
        clear hA hU
        obtain ⟨_, hA, _⟩ := hM.left
        refine ⟨_, _, rfl, ⟨(rqidle_ok hA (hTab.no hM.U) m).mono ?_⟩⟩
        rintro e w1 ⟨rfl, hU⟩
        replace hM := hM.upd hU
        clear hA hU
        obtain ⟨_, hA, _⟩ := hM.right
        refine ⟨_, _, rfl, ⟨(rridle_ok hA hW hl m).mono ?_⟩⟩
        rintro e w1 ⟨rfl, hU⟩
        replace hM := hM.upd hU
        refine ⟨_, _, rfl, fun _ => ⟨fun _ => ⟨fun _ => ⟨fun _ => ⟨(known_ok _).mono ?_⟩, fun g => by simp at g⟩, fun g => by simp at g⟩, fun g => by simp at g⟩, fun g => by simp at g⟩
        rintro e w' ⟨rfl, hU2⟩
        exact ⟨_, rfl, rfl, hM.U.and hU2⟩
      rw [t3_1]
      refine ⟨fun g1 => ?_, fun g1 => ?_⟩
      · refine ⟨fun g2 => ?_, fun g2 => ?_⟩
        · have hi : i < l.length := by simpa using g1
          have hi2 : i < 100 := by simp at g2; omega
          refine ⟨⟨by omega, by omega⟩, ?_⟩
          obtain ⟨_, ha, hc⟩ := (h.no hM.U).atk recIIIII_len (by decide) hi
          cases ha
          refine ⟨_, rfl, ?_⟩
          refine ⟨_,  hc 0 _ rfl, ?_⟩
          refine ⟨_,  hc 1 _ rfl, ?_⟩
          refine ⟨_,  hc 2 _ rfl, ?_⟩
          refine ⟨_,  hc 3 _ rfl, ?_⟩
          refine ⟨_,  hc 4 _ rfl, ?_⟩
          refine ⟨fun w2 hN => ?_⟩
          replace hM : Mine W w2 (Star (Star (RqO b1) (RrO b2)) (Rw w.heap.size 33 recIIIII)) ((x, x), (0, 0, 0, 0, 0)) := hM.add (hN.upd no) (Rw.new (enc := recIIIII) (s := (0, 0, 0, 0, 0)) hN rfl) (fun _ h => Nat.le_of_eq h.symm)
          generalize w.heap.size = b3 at hM ⊢
          obtain ⟨_, hA, hT⟩ := hM.right
          refine hA.blk.wr0 (by simp [recIIIII]) fun w3 hW3 => ?_
          replace hM : Mine W w3 (Star (Star (RqO b1) (RrO b2)) (Rw b3 33 recIIIII)) ((x, x), l[i]) := hT _ _ (hA.turned (s' := l[i]) hW3.U hW3.blk')
          clear hA hT hW3
          refine ⟨_,  (atBlk hM.right).cell rfl, ?_⟩
          refine ⟨_,  (atBlk hM.right).cell rfl, ?_⟩
          refine ⟨_,  (atBlk hM.right).cell rfl, ?_⟩
          refine ⟨_,  (atBlk hM.right).cell rfl, ?_⟩
          refine ⟨_,  (atBlk hM.right).cell rfl, ?_⟩
          obtain ⟨_, hA, hT⟩ := hM.left
          refine ⟨(do_ok hA l[i]).mono ?_⟩
          rintro e w4 ⟨rfl, hU⟩
          replace hM := hT _ _ hU
          clear hA hT hU
          obtain ⟨hW, hl⟩ : RqW (actQ x l[i]) ∧ (actQ x l[i]).length ≤ 64 := by obtain ⟨_, hA, _⟩ := hM.ll; exact ⟨hA.W, hA.cpus.2⟩
          have hlq : ∀ {c}, (rqListE (actQ x l[i]) c).length ≤ 140737488355328 := rqlist_le hW _
          
          refine ⟨_, rfl, ?_⟩
          refine ⟨fun g3 => ?_, fun g3 => ?_⟩
          · first | (simp at g3; done)
          · refine ⟨_,  (atBlk hM.right).cell rfl, ?_⟩
            obtain ⟨_, hA, hT⟩ := hM.ll
            refine ⟨(rqwhere_ok hA _).mono ?_⟩
            rintro e w2 ⟨rfl, rfl⟩
            clear hA hT
            refine ⟨_, _, rfl, ?_⟩
            refine ⟨_,  (atBlk hM.right).cell rfl, ?_⟩
            obtain ⟨_, hA, hT⟩ := hM.lr
            refine ⟨(rrWhere_ok hA hW hl _).mono ?_⟩
            rintro e w2 ⟨rfl, rfl⟩
            clear hA hT
            refine ⟨_, _, rfl, ?_⟩
            refine ⟨_,  (atBlk hM.right).cell rfl, ?_⟩
            obtain ⟨_, hA, hT⟩ := hM.ll
            refine ⟨(rqprio_ok hA _).mono ?_⟩
            rintro e w2 ⟨rfl, rfl⟩
            clear hA hT
            refine ⟨_, _, rfl, ?_⟩
            refine ⟨_,  (atBlk hM.right).cell rfl, ?_⟩
            obtain ⟨_, hA, hT⟩ := hM.lr
            refine ⟨(rrPrio_ok hA hW hl _).mono ?_⟩
            rintro e w2 ⟨rfl, rfl⟩
            clear hA hT
            refine ⟨_, _, rfl, ?_⟩
            intro w1 q1 q2 q3 q4
            replace hM := hM.upd (Upd.same no q1 q2 q3 q4)
            refine ⟨fun g4 => ?_, fun g4 => ?_⟩
            · refine ⟨fun g5 => ?_, fun g5 => ?_⟩
              · refine ⟨fun g6 => ?_, fun g6 => ?_⟩
                · refine ⟨fun g7 => ?_, fun g7 => ?_⟩
                  · refine ⟨_,  (atBlk hM.right).cell rfl, ?_⟩
                    refine ⟨_,  (atBlk hM.right).cell rfl, ?_⟩
                    obtain ⟨_, hA, hT⟩ := hM.ll
                    refine ⟨(rqload_ok hA _).mono ?_⟩
                    rintro e w2 ⟨rfl, rfl⟩
                    clear hA hT
                    refine ⟨_, rfl, ?_⟩
                    refine ⟨(atBlk hM.right).cell rfl, ?_⟩
                    obtain ⟨_, hA, hT⟩ := hM.lr
                    refine ⟨(rrLoad_ok hA hW _).mono ?_⟩
                    rintro e w2 ⟨rfl, hU⟩
                    replace hM := hM.upd hU
                    clear hA hT hU
                    refine ⟨_, rfl, ?_⟩
                    refine ⟨fun g8 => ?_, fun g8 => ?_⟩
                    · refine ⟨_,  (atBlk hM.right).cell rfl, ?_⟩
                      refine ⟨_,  (atBlk hM.right).cell rfl, ?_⟩
                      obtain ⟨_, hA, hT⟩ := hM.ll
                      refine ⟨(rqlistC_ok hA _).mono ?_⟩
                      rintro e w2 ⟨_, _, rfl, hC, hU⟩
                      replace hM := hM.upd hU
                      clear hA hT hU
                      refine ⟨_, _, _, rfl, ?_⟩
                      refine ⟨(atBlk hM.right).cell rfl, ?_⟩
                      obtain ⟨_, hA, hT⟩ := hM.lr
                      refine ⟨(rrListC_ok hA hW _).mono ?_⟩
                      rintro e w2 ⟨_, _, rfl, hC2, hU⟩
                      replace hM := hM.upd hU
                      replace hC := hC.no hU
                      clear hA hT hU
                      refine ⟨_, _, _, rfl, ?_⟩
                      refine ⟨(ints_ok hC hC2 hlq).mono ?_⟩
                      rintro e w2 ⟨rfl, hU⟩
                      replace hM := hM.upd hU
                      clear hU
                      refine ⟨_, rfl, ?_⟩
                      refine ⟨fun g9 => ?_, fun g9 => ?_⟩
                      · refine ⟨_,  (atBlk hM.right).cell rfl, ?_⟩
                        refine ⟨_,  (atBlk hM.right).cell rfl, ?_⟩
                        obtain ⟨_, hA, hT⟩ := hM.ll
                        refine ⟨(rqlistC_ok hA _).mono ?_⟩
                        rintro e w2 ⟨_, _, rfl, hC, hU⟩
                        replace hM := hM.upd hU
                        clear hA hT hU
                        refine ⟨_, _, _, rfl, ?_⟩
                        refine ⟨(atBlk hM.right).cell rfl, ?_⟩
                        obtain ⟨_, hA, hT⟩ := hM.lr
                        refine ⟨(rrListC_ok hA hW _).mono ?_⟩
                        rintro e w2 ⟨_, _, rfl, hC2, hU⟩
                        replace hM := hM.upd hU
                        replace hC := hC.no hU
                        clear hA hT hU
                        refine ⟨_, _, _, rfl, ?_⟩
                        refine ⟨(ints_ok hC hC2 hlq).mono ?_⟩
                        rintro e w2 ⟨rfl, hU⟩
                        replace hM := hM.upd hU
                        clear hU
                        refine ⟨_, rfl, ?_⟩
                        refine ⟨fun g10 => ?_, fun g10 => ?_⟩
                        · first | (simp at g10; done)
                        · exact ⟨(i + 1, actQ x l[i]), ⟨rfl, rfl, rfl, rfl, by rw [w64 (by omega)]; rfl, trivial⟩, ⟨by simp only; omega, hM.drop⟩, by simp only; omega⟩
                      · first | (simp at g9; done)
                    · first | (simp at g8; done)
                  · first | (simp at g7; done)
                · first | (simp at g6; done)
              · first | (simp at g5; done)
            · first | (simp at g4; done)
        · exact hgo _ hM
      · exact hgo _ hM
end Go.Dav
