/- The statements on stashes: what their functions come to. -/
import Derived.Test.YtibpjbmcjeglpaaStLaw08
set_option linter.unusedSimpArgs false
set_option linter.unusedVariables false
namespace Go.Dav
open Go.Proofs

theorem known_ok (w : World) : Calls Try.prog 9 #[] w fun e w' => e = .returned (.bool true) ∧ Upd no w w' := by
  refine u9 ?_
  rw [t9]
  refine ⟨(snew_ok _ _ _).mono ?_⟩
  rintro e w2 hh
  obtain ⟨_, b1, F1, rfl, hQ, hU, hF⟩ := hh.resolve_left (fun h => absurd (by unfold okNew; omega) h.1)
  have hM : Mine w w2 (StO b1) (newK 2 2) := Mine.new (Upd.refl _ _) hU hQ hF
  clear hU hQ hF
  refine ⟨_, _, rfl, ?_⟩
  refine ⟨fun g1 => ?_, fun g1 => ?_⟩
  · refine ⟨fun g2 => ?_, fun g2 => ?_⟩
    · first | exact absurd g2 (by decide +kernel) | (simp at g2; done)
    · obtain ⟨_, hA, hT⟩ := hM.turn
      refine ⟨(salloc_ok hA _).mono ?_⟩
      rintro e w2 ⟨rfl, hU⟩
      replace hM := hT _ _ hU
      clear hA hT hU
      refine ⟨_, _, rfl, ?_⟩
      obtain ⟨_, hA, hT⟩ := hM.turn
      refine ⟨(salloc_ok hA _).mono ?_⟩
      rintro e w2 ⟨rfl, hU⟩
      replace hM := hT _ _ hU
      clear hA hT hU
      refine ⟨_, _, rfl, ?_⟩
      obtain ⟨_, hA, hT⟩ := hM.turn
      refine ⟨(sgive_ok hA _ _).mono ?_⟩
      rintro e w2 ⟨rfl, hU⟩
      replace hM := hT _ _ hU
      clear hA hT hU
      refine ⟨_, rfl, ?_⟩
      obtain ⟨_, hA, hT⟩ := hM.turn
      refine ⟨(drain_ok hA _).mono ?_⟩
      rintro e w2 ⟨rfl, hU⟩
      replace hM := hT _ _ hU
      clear hA hT hU
      refine ⟨_, _, rfl, ?_⟩
      refine ⟨fun g3 => ?_, fun g3 => ?_⟩
      · refine ⟨fun g4 => ?_, fun g4 => ?_⟩
        · refine ⟨fun g5 => ?_, fun g5 => ?_⟩
          · refine ⟨fun g6 => ?_, fun g6 => ?_⟩
            · refine ⟨fun g7 => ?_, fun g7 => ?_⟩
              · refine ⟨fun g8 => ?_, fun g8 => ?_⟩
                · refine ⟨fun g9 => ?_, fun g9 => ?_⟩
                  · obtain ⟨_, hA, hT⟩ := hM.turn
                    refine ⟨(outs_ok hA).mono ?_⟩
                    rintro e w2 ⟨_, _, rfl, hC, hU⟩
                    replace hM := hM.upd hU
                    clear hA hT hU
                    refine ⟨_, _, _, rfl, ?_⟩
                    refine ⟨fun w2 hN => ?_⟩
                    have hC2 := (Sl.new (T := 3) (n := 1) (sz := 1) (cs := ([1] : List Int).map (Value.int .i64)) hN (by simp) (by decide)).cells
                    replace hM := hM.upd (hN.upd no)
                    replace hC := hC.no (hN.upd no)
                    refine ⟨(ints_ok hC hC2 (by decide +kernel)).mono ?_⟩
                    rintro e w2 ⟨rfl, hU⟩
                    replace hM := hM.upd hU
                    clear hU
                    refine ⟨_, rfl, ?_⟩
                    refine ⟨fun g10 => ?_, fun g10 => ?_⟩
                    · obtain ⟨_, hA, hT⟩ := hM.turn
                      refine ⟨(sfree_ok hA).mono ?_⟩
                      rintro e w2 ⟨rfl, rfl⟩
                      clear hA hT
                      refine ⟨_, rfl, ?_⟩
                      exact ⟨congrArg (fun b => Ending.returned (Value.bool b)) (by decide +kernel), hM.U⟩
                    · first | exact absurd g10 (by decide +kernel) | (simp at g10; done)
                  · first | exact absurd g9 (by decide +kernel) | (simp at g9; done)
                · first | exact absurd g8 (by decide +kernel) | (simp at g8; done)
              · first | exact absurd g7 (by decide +kernel) | (simp at g7; done)
            · first | exact absurd g6 (by decide +kernel) | (simp at g6; done)
          · first | exact absurd g5 (by decide +kernel) | (simp at g5; done)
        · first | exact absurd g4 (by decide +kernel) | (simp at g4; done)
      · first | exact absurd g3 (by decide +kernel) | (simp at g3; done)
  · first | exact absurd g1 (by decide +kernel) | (simp at g1; done)

theorem stashNil_ok {W : World} {m n : Int} (_ : (Lit.int .i64 m).wf = true) (_ : (Lit.int .i64 n).wf = true) : Calls Try.prog 6 #[.int .i64 m, .int .i64 n] W fun e w' => e = .returned (.bool true) ∧ Upd no W w' := by
  refine u6 ?_
  rw [t6]
  refine ⟨(sallocNil_ok _ _).mono ?_⟩
  rintro e w2 ⟨rfl, rfl⟩
  refine ⟨_, _, rfl, ?_⟩
  refine ⟨(drainNil_ok _ _).mono ?_⟩
  rintro e w2 ⟨rfl, rfl⟩
  refine ⟨_, _, rfl, ?_⟩
  refine ⟨fun g1 => ?_, fun g1 => ?_⟩
  · refine ⟨(sgiveNil_ok _ _ _).mono ?_⟩
    rintro e w2 ⟨rfl, rfl⟩
    refine ⟨_, rfl, ?_⟩
    refine ⟨fun g2 => ?_, fun g2 => ?_⟩
    · refine ⟨fun g3 => ?_, fun g3 => ?_⟩
      · refine ⟨(keptNil_ok _ _).mono ?_⟩
        rintro e w2 ⟨rfl, rfl⟩
        refine ⟨_, _, _, rfl, ?_⟩
        refine ⟨fun g4 => ?_, fun g4 => ?_⟩
        · refine ⟨(outsNil_ok _).mono ?_⟩
          rintro e w2 ⟨rfl, rfl⟩
          refine ⟨_, _, _, rfl, ?_⟩
          refine ⟨fun g5 => ?_, fun g5 => ?_⟩
          · refine ⟨(sfreeNil_ok _).mono ?_⟩
            rintro e w2 ⟨rfl, rfl⟩
            refine ⟨_, rfl, ?_⟩
            refine ⟨fun g6 => ?_, fun g6 => ?_⟩
            · refine ⟨(shasNil_ok _ _).mono ?_⟩
              rintro e w2 ⟨rfl, hU⟩
              refine ⟨_, rfl, ?_⟩
              refine ⟨fun g7 => ?_, fun g7 => ?_⟩
              · refine ⟨(known_ok _).mono ?_⟩
                rintro e w3 ⟨rfl, hU2⟩
                refine ⟨_, rfl, ?_⟩
                exact ⟨rfl, hU.and hU2⟩
              · exact absurd g7 (by decide)
            · exact absurd g6 (by decide)
          · exact absurd g5 (by decide)
        · exact absurd g4 (by decide)
      · exact absurd g3 (by decide)
    · exact absurd g2 (by decide)
  · exact absurd g1 (by decide)

/-! ### StashPlays -/
theorem do_ok {W w : World} {b1 b2 : Nat} {x : KS} {a : Int × Int × Int} (hM : Mine W w (Star (StO b1) (RsO b2)) (x, x)) (hK : KI x) :
    Calls Try.prog 10 #[.pointer (some ⟨b1, 0, none⟩), .pointer (some ⟨b2, 0, none⟩), .agg #[.int .i64 a.1, .int .i64 a.2.1, .int .i64 a.2.2]] w fun e w' =>
      e = .returned (.bool true) ∧ ∃ y, KI y ∧ y.1.length = x.1.length ∧ y.2.length = x.2.length ∧ Mine W w' (Star (StO b1) (RsO b2)) (y, y) := by
  refine u10 ?_
  rw [t10]
  refine ⟨fun w2 hN => ?_⟩
  replace hM := hM.add (hN.upd no) (Rw.new (enc := recIII) (s := a) hN rfl) (fun _ h => Nat.le_of_eq h.symm)
  refine ⟨_,  (atBlk hM.right).cell rfl, ?_⟩
  refine ⟨by decide, ?_⟩
  refine ⟨fun g1 => ?_, fun g1 => ?_⟩
  · refine ⟨_,  (atBlk hM.right).cell rfl, ?_⟩
    obtain ⟨_, hA, hT⟩ := hM.ll
    refine ⟨(salloc_ok hA _).mono ?_⟩
    rintro e w2 ⟨rfl, hU⟩
    replace hM := hT _ _ hU
    clear hA hT hU
    refine ⟨_, _, rfl, ?_⟩
    refine ⟨_,  (atBlk hM.right).cell rfl, ?_⟩
    obtain ⟨_, hA, hT⟩ := hM.lr
    refine ⟨(rsalloc_ok hA _ (hK.fillNd _)).mono ?_⟩
    rintro e w2 ⟨rfl, hU⟩
    replace hM := hT _ _ hU
    clear hA hT hU
    refine ⟨_, _, rfl, ?_⟩
    refine ⟨fun g2 => ?_, fun g2 => ?_⟩
    · first | (simp at g2; done) | exact ⟨by simp, _, hK.alloc _, (allocS_len _ _).1, (allocS_len _ _).2, hM.drop⟩ | exact ⟨by simp, _, hK.give _ _, (sgiveS_len _ _ _).1, (sgiveS_len _ _ _).2, hM.drop⟩ | exact ⟨by simp, _, (hK.drain _).1, (drainS_len _ _).1, (drainS_len _ _).2, hM.drop⟩
    · first | (simp at g2; done) | exact ⟨by simp, _, hK.alloc _, (allocS_len _ _).1, (allocS_len _ _).2, hM.drop⟩ | exact ⟨by simp, _, hK.give _ _, (sgiveS_len _ _ _).1, (sgiveS_len _ _ _).2, hM.drop⟩ | exact ⟨by simp, _, (hK.drain _).1, (drainS_len _ _).1, (drainS_len _ _).2, hM.drop⟩
  · refine ⟨fun g3 => ?_, fun g3 => ?_⟩
    · intro w1 q1 q2 q3 q4
      replace hM := hM.upd (Upd.same no q1 q2 q3 q4)
      refine ⟨_,  (atBlk hM.right).cell rfl, ?_⟩
      refine ⟨_,  (atBlk hM.right).cell rfl, ?_⟩
      refine ⟨_,  (atBlk hM.right).cell rfl, ?_⟩
      refine ⟨_,  (atBlk hM.right).cell rfl, ?_⟩
      obtain ⟨_, hA, hT⟩ := hM.ll
      refine ⟨(sgive_ok hA _ _).mono ?_⟩
      rintro e w2 ⟨rfl, hU⟩
      replace hM := hT _ _ hU
      clear hA hT hU
      refine ⟨_, rfl, ?_⟩
      refine ⟨(atBlk hM.right).cell rfl, ?_⟩
      refine ⟨(atBlk hM.right).cell rfl, ?_⟩
      obtain ⟨_, hA, hT⟩ := hM.lr
      refine ⟨(rsgive_ok hA _ _).mono ?_⟩
      rintro e w2 ⟨rfl, hU⟩
      replace hM := hT _ _ hU
      clear hA hT hU
      refine ⟨_, rfl, ?_⟩
      first | (simp at g3; done) | exact ⟨by simp, _, hK.alloc _, (allocS_len _ _).1, (allocS_len _ _).2, hM.drop⟩ | exact ⟨by simp, _, hK.give _ _, (sgiveS_len _ _ _).1, (sgiveS_len _ _ _).2, hM.drop⟩ | exact ⟨by simp, _, (hK.drain _).1, (drainS_len _ _).1, (drainS_len _ _).2, hM.drop⟩
    · refine ⟨_,  (atBlk hM.right).cell rfl, ?_⟩
      obtain ⟨_, hA, hT⟩ := hM.ll
      refine ⟨(drain_ok hA _).mono ?_⟩
      rintro e w2 ⟨rfl, hU⟩
      replace hM := hT _ _ hU
      clear hA hT hU
      refine ⟨_, _, rfl, ?_⟩
      refine ⟨_,  (atBlk hM.right).cell rfl, ?_⟩
      obtain ⟨_, hA, hT⟩ := hM.lr
      refine ⟨(rdrain_ok hA _).mono ?_⟩
      rintro e w2 ⟨rfl, hU⟩
      replace hM := hT _ _ hU
      clear hA hT hU
      refine ⟨_, _, rfl, ?_⟩
      refine ⟨fun g4 => ?_, fun g4 => ?_⟩
      · first | (simp at g4; done) | exact ⟨by simp, _, hK.alloc _, (allocS_len _ _).1, (allocS_len _ _).2, hM.drop⟩ | exact ⟨by simp, _, hK.give _ _, (sgiveS_len _ _ _).1, (sgiveS_len _ _ _).2, hM.drop⟩ | exact ⟨by simp, _, (hK.drain _).1, (drainS_len _ _).1, (drainS_len _ _).2, hM.drop⟩
      · first | (simp at g4; done) | exact ⟨by simp, _, hK.alloc _, (allocS_len _ _).1, (allocS_len _ _).2, hM.drop⟩ | exact ⟨by simp, _, hK.give _ _, (sgiveS_len _ _ _).1, (sgiveS_len _ _ _).2, hM.drop⟩ | exact ⟨by simp, _, (hK.drain _).1, (drainS_len _ _).1, (drainS_len _ _).2, hM.drop⟩

theorem keptE_not {x : KS} {cpu : Int} (h : ¬ inC x cpu) : keptE x cpu = [] := by rw [keptE, if_neg h]
theorem plays0 {W w : World} {b1 b2 : Nat} {m : Int} {x : KS} (hM : Mine W w (Star (StO b1) (RsO b2)) (x, x)) (hm : (x.2.length : Int) = m) :
    CutD Try.prog M3 c3_0 (e3_0 m (some ⟨b1, 0, none⟩)) w (k3_0 fun e w' => e = .returned (.bool true) ∧ Upd no W w') := by
  refine CutD.mk ?_
  rw [t3_0]
  obtain ⟨_, hA, hT⟩ := hM.left
  refine ⟨(kept_ok hA _).mono ?_⟩
  rintro e w2 ⟨p1, c1, rfl, hC, hU⟩
  replace hM := hM.upd hU
  clear hA hT hU
  rw [keptE_not (fun h => absurd h.1 (by omega))]
  refine ⟨_, _, _, rfl, fun _ => ?_, fun g => by simp at g⟩
  obtain ⟨_, hA, hT⟩ := hM.left
  refine ⟨(kept_ok hA _).mono ?_⟩
  rintro e w3 ⟨p1, c1, rfl, hC, hU⟩
  replace hM := hM.upd hU
  clear hA hT hU
  rw [keptE_not (fun h => absurd h.2 (by simp only; omega))]
  refine ⟨_, _, _, rfl, fun _ => ?_, fun g => by simp at g⟩
  refine ⟨(known_ok w3).mono ?_⟩
  rintro e w4 ⟨rfl, hU⟩
  exact ⟨_, rfl, rfl, hM.U.and hU⟩

theorem stashPlays_ok {W : World} {m n : Int} {p : Option Addr} {l : List (Int × Int × Int)} {c : Nat} (_ : (Lit.int .i64 m).wf = true) (_ : (Lit.int .i64 n).wf = true) (_ : ∀ x ∈ l, okIII x) (h : Cells W p (l.flatMap recIII)) (_ : l.length ≤ maxLen) :
    Calls Try.prog 3 #[.int .i64 m, .int .i64 n, .slice p l.length c] W fun e w' => e = .returned (.bool true) ∧ Upd no W w' := by
  refine u3 ?_
  rw [t3]
  refine ⟨(snew_ok m n W).mono ?_⟩
  rintro e w1 (⟨hno, rfl, hU⟩ | ⟨hyes, b1, F1, rfl, hQ, hU, hF⟩)
  · refine ⟨_, _, rfl, ⟨(rsnew_ok m n w1).mono ?_⟩⟩
    rintro e w2 (⟨_, rfl, hU2⟩ | ⟨h, _⟩)
    · refine ⟨_, _, rfl, fun _ => ⟨fun g => by simp at g, fun _ => ⟨fun _ => ⟨(known_ok _).mono ?_⟩, fun g => by simp at g⟩⟩, fun g => by simp at g⟩
      rintro e w3 ⟨rfl, hU3⟩
      exact ⟨_, rfl, rfl, hU.and (hU2.and hU3)⟩
    · exact absurd h hno
  · have hM : Mine W w1 (StO b1) (newK m n) := Mine.new (Upd.refl _ _) hU hQ hF
    refine ⟨_, _, rfl, ⟨(rsnew_ok m n w1).mono ?_⟩⟩
    rintro e w2 (⟨h, _⟩ | ⟨_, b2, F2, rfl, hQ2, hU2, hF2⟩)
    · exact absurd hyes h
    · replace hM : Mine W w2 (Star (StO b1) (RsO b2)) (newK m n, newK m n) := hM.add hU2 hQ2 hF2
      clear hU hQ hF hU2 hQ2 hF2
      refine ⟨_, _, rfl, fun _ => ⟨fun g => by simp at g, fun _ => ⟨fun g => by simp at g, fun _ => ?_⟩⟩, fun g => by simp at g⟩
      refine ⟨WP_loop okProg (M := M3) (σ := Nat × KS) (fun x => e3_1 m p l.length c (some ⟨b1, 0, none⟩) (some ⟨b2, 0, none⟩) (x.1 : Int))
        (fun x w => x.1 ≤ l.length ∧ x.1 ≤ 120 ∧ KI x.2 ∧ (x.2.2.length : Int) = m ∧ Mine W w (Star (StO b1) (RsO b2)) (x.2, x.2)) (fun x _ => l.length - x.1) (0, newK m n) ⟨rfl, rfl, rfl, rfl, rfl, trivial⟩ ⟨by simp, by simp, KI.new hyes, by unfold okNew at hyes; simp [newK]; omega, hM⟩ ?_⟩
      clear hM
      rintro ⟨i, x⟩ w ⟨h1, h2, hK, hm, hM⟩
      simp only at h1 h2 hK hm hM ⊢
      rw [t3_1]
      refine ⟨fun g1 => ⟨fun g2 w2 q1 q2 q3 q4 => ?_, fun g2 => plays0 hM hm⟩, fun g1 => plays0 hM hm⟩
      have hi : i < l.length := by simpa using g1
      have hi2 : i < 120 := by simp at g2; omega
      replace hM := hM.upd (Upd.same no q1 q2 q3 q4)
      obtain ⟨a, rfl, hc⟩ := (h.no hM.U).atk recIII_len (by omega) hi
      refine ⟨⟨by omega, by omega⟩, a, rfl, _, hc 0 _ rfl, _, hc 1 _ rfl, _, hc 2 _ rfl, ⟨(do_ok (a := l[i]) hM hK).mono ?_⟩⟩
      clear hM hc
      rintro e w3 ⟨rfl, y, hY, k1, k2, hM⟩
      refine ⟨_, rfl, fun _ => ?_, fun g => by simp at g⟩
      obtain ⟨_, hA, hT⟩ := hM.left
      refine ⟨(outs_ok hA).mono ?_⟩
      rintro e w4 ⟨p1, c1, rfl, hC, hU⟩
      replace hM := hM.upd hU
      clear hA hT hU
      obtain ⟨_, hA, hT⟩ := hM.right
      refine ⟨_, _, _, rfl, ⟨(routs_ok hA).mono ?_⟩⟩
      rintro e w5 ⟨p2, c2, rfl, hC2, hU⟩
      replace hM := hM.upd hU
      replace hC := hC.no hU
      clear hA hT hU
      have hl : 1 ≤ y.1.length ∧ y.1.length ≤ 12 := hY.pg.len
      refine ⟨_, _, _, rfl, ⟨(ints_ok hC hC2 (by have := outsN_len y (8 * y.1.length); show (outsN y (8 * y.1.length)).length ≤ _; omega)).mono ?_⟩⟩
      rintro e w6 ⟨rfl, hU⟩
      replace hM := hM.upd hU
      clear hU hC hC2
      refine ⟨_, rfl, fun _ => ?_, fun g => by simp at g⟩
      obtain ⟨_, hA, hT⟩ := hM.right
      obtain ⟨b3, F3, hP, ⟨p3, c3, hB⟩, _⟩ := hA.ptr
      clear hA hT
      obtain ⟨_, hA, hT⟩ := hM.left
      refine ⟨_, rfl, _, hB.cell rfl, ⟨(sfree_ok hA).mono ?_⟩⟩
      rintro e w7 ⟨rfl, rfl⟩
      clear hA hT
      refine ⟨_, rfl, hB.cell rfl, ⟨(rfree_ok hP).mono ?_⟩⟩
      rintro e w8 ⟨rfl, rfl⟩
      clear hP hB
      refine ⟨_, rfl, fun _ => ?_, fun g => by simp at g⟩
      obtain ⟨_, ha, hc⟩ := (h.no hM.U).atk recIII_len (by omega) hi
      cases ha
      obtain ⟨_, hA, hT⟩ := hM.left
      refine ⟨⟨by omega, by omega⟩, a, rfl, _, hc 2 _ rfl, ⟨by omega, by omega⟩, a, rfl, _, hc 2 _ rfl, ⟨(shas_ok hA _).mono ?_⟩⟩
      rintro e w9 ⟨rfl, hU⟩
      replace hM := hM.upd hU
      clear hA hT hU hc
      obtain ⟨_, ha, hc⟩ := (h.no hM.U).atk recIII_len (by omega) hi
      cases ha
      obtain ⟨_, hA, hT⟩ := hM.right
      refine ⟨_, rfl, hc 2 _ rfl, ⟨(rhas_ok hA _).mono ?_⟩⟩
      rintro e w10 ⟨rfl, rfl⟩
      clear hA hT
      refine ⟨_, rfl, fun g => by simp at g, fun _ w11 q1 q2 q3 q4 => ?_⟩
      replace hM := hM.upd (Upd.same no q1 q2 q3 q4)
      clear hc
      have go : ∀ w', Mine W w' (Star (StO b1) (RsO b2)) (y, y) → ∃ s : Nat × KS, CoversL (e3_1 m (some a) l.length c (some ⟨b1, 0, none⟩) (some ⟨b2, 0, none⟩) (IntKind.wrap .i64 ((i : Int) + 1))) (e3_1 m (some a) l.length c (some ⟨b1, 0, none⟩) (some ⟨b2, 0, none⟩) (s.1 : Int)) ∧ (s.1 ≤ l.length ∧ s.1 ≤ 120 ∧ KI s.2 ∧ (s.2.2.length : Int) = m ∧ Mine W w' (Star (StO b1) (RsO b2)) (s.2, s.2)) ∧ l.length - s.1 < l.length - i := fun w' hM =>
        ⟨(i + 1, y), ⟨rfl, rfl, rfl, rfl, by rw [w64 (by omega)]; rfl, trivial⟩, ⟨by simp only; omega, by simp only; omega, hY, by simp only; omega, hM⟩, by simp only; omega⟩
      obtain ⟨_, ha, hc⟩ := (h.no hM.U).atk recIII_len (by omega) hi
      cases ha
      obtain ⟨_, hA, hT⟩ := hM.right
      have hc1 : w11.cell? ((a.add (i * 3)).add 1) = some (.int .i64 l[i].2.1) := hc 1 _ rfl
      refine ⟨⟨by omega, by omega⟩, a, rfl, _, hc1, ⟨(ris_ok hA _).mono ?_⟩⟩
      rintro e w12 ⟨rfl, rfl⟩
      refine ⟨_, rfl, fun g => ?_, fun _ => go _ hM⟩
      obtain ⟨k, hk, hcpu⟩ := inC_at (of_decide_eq_true g)
      simp only at hk
      rw [hcpu] at hc1
      obtain ⟨b4, F4, G4, a4, c4, p4, d4, _, hR, _, _, _⟩ := hA.row hk
      obtain ⟨F5, hR⟩ := hR.open hk
      obtain ⟨_, hA2, hT2⟩ := hM.left
      have ek : keptE y (k : Int) = y.2[k] := by rw [keptE, if_pos (inC_of hk), rowC_at hk]
      have h4 : y.2[k].length ≤ 4 := hY.le _ (List.getElem_mem hk)
      have hkp := kept_ok hA2 (k : Int)
      simp only [ek] at hkp
      refine ⟨⟨by omega, by omega⟩, a, rfl, _, hc1, _, rfl, _, _, _, hR.blk0.cell rfl, ⟨by omega, by omega⟩, a, rfl, _, hc1, ⟨by omega, by show (k : Int) < (y.2.length : Int); omega⟩, a4, rfl, _, _, _, hR.cell0, ⟨hkp.mono ?_⟩⟩
      rintro e w13 ⟨p5, c5, rfl, hC, hU⟩
      have hC2 := hR.cells.no hU
      have hM3 := hM.upd hU
      obtain ⟨_, ha, hc⟩ := (h.no hM3.U).atk recIII_len (by omega) hi
      cases ha
      have hc2 : w13.cell? ((a.add (i * 3)).add 1) = some (.int .i64 l[i].2.1) := hc 1 _ rfl
      rw [hcpu] at hc2
      refine ⟨_, _, _, rfl, hR.cell _ hU.none, hc2, (hR.blk _ hU.none).cell rfl, ⟨(ints_ok hC hC2 (by omega)).mono ?_⟩⟩
      rintro e w14 ⟨rfl, hU2⟩
      exact ⟨_, rfl, fun g => by simp at g, fun _ => go _ (hM3.upd hU2)⟩

/-! ### StashOnce -/
def seenL (k : Nat) (l : List Int) : List Bool := (List.range k).map (fun (i : Nat) => decide ((i : Int) ∈ l))
theorem seenL_len (k : Nat) (l : List Int) : (seenL k l).length = k := by simp [seenL]
theorem seenL_at {k : Nat} {l : List Int} {i : Nat} (h : i < (seenL k l).length) : (seenL k l)[i] = decide ((i : Int) ∈ l) := by simp [seenL]
theorem seenL_more (k : Nat) (l : List Int) (i : Nat) : (seenL k l).set i true = seenL k (l ++ [(i : Int)]) := by
  apply List.ext_getElem
  · simp [seenL]
  · intro j h1 h2
    rw [List.getElem_set, seenL_at (by simpa using h1), seenL_at h2]
    by_cases hj : i = j
    · subst hj; simp
    · rw [if_neg hj]
      have : ¬ ((j : Int) = (i : Int)) := by omega
      simp [this]
theorem flat_take {L : List (List Int)} {j : Nat} (hj : j < L.length) : (L.take (j + 1)).flatten = (L.take j).flatten ++ L[j] := by
  rw [List.take_succ_eq_append_getElem hj, List.flatten_append]; simp
theorem flat_le (L : List (List Int)) (j : Nat) : (L.take j).flatten.length ≤ L.flatten.length := by
  conv => rhs; rw [← List.take_append_drop j L, List.flatten_append, List.length_append]
  omega
section
variable {W w : World} {b1 : Nat} {x : KS}
abbrev OnO (b1 : Nat) := Star (Star (StO b1) (Lv 4 Value.bool)) (Ls 3)
theorem once3 {p sp : Option Addr} {c sc : Nat} {l : List Int} {sl : List Bool} (hM : Mine W w (OnO b1) ((x, (sp, sc, sl)), (p, c, l))) (hl : l.length + freeN x.1 = 8 * x.1.length) (h12 : x.1.length ≤ 12) :
    CutD Try.prog M4 c4_3 (e4_3 (x.1.length : Int) (some ⟨b1, 0, none⟩) p l.length c) w (k4_3 fun e w' => e = .returned (.bool true) ∧ Upd no W w') := by
  refine CutD.mk ?_
  rw [t4_3]
  obtain ⟨_, hA, hT⟩ := hM.ll
  refine ⟨(sfree_ok hA).mono ?_⟩
  rintro e w2 ⟨rfl, rfl⟩
  simp only
  have e1 : ((l.length : Int) + (freeN x.1 : Int)) = ((8 * x.1.length : Nat) : Int) := by omega
  have e2 : 8 * (x.1.length : Int) = ((8 * x.1.length : Nat) : Int) := by omega
  refine ⟨_, rfl, fun _ => ⟨(known_ok w2).mono ?_⟩, fun g => by rw [e1, e2] at g; simp at g⟩
  rintro e w3 ⟨rfl, hU⟩
  exact ⟨_, rfl, rfl, hM.U.and hU⟩

theorem once2 {p sp : Option Addr} {c sc : Nat} (hM : Mine W w (OnO b1) ((x, (sp, sc, seenL (8 * x.1.length + 1) [])), (p, c, outsE x ++ x.2.flatten))) (hK : KI x) :
    CutD Try.prog M4 c4_2 (e4_2 (x.1.length : Int) (some ⟨b1, 0, none⟩) sp (8 * x.1.length + 1) sc p (outsE x ++ x.2.flatten).length c) w (k4_2 fun e w' => e = .returned (.bool true) ∧ Upd no W w') := by
  refine CutD.mk ?_
  rw [t4_2]
  have hl := hK.pg.len
  have hnd := all_nodup hK
  have hme := all_mem hK
  have hct := all_count hK
  rw [← List.length_append] at hct
  generalize outsE x ++ x.2.flatten = fl at *
  refine ⟨WP_loop okProg (M := M4) (σ := Nat) (fun j => e4_5 (x.1.length : Int) (some ⟨b1, 0, none⟩) sp (8 * x.1.length + 1) sc p fl.length c (j : Int))
    (fun j w => j ≤ fl.length ∧ Mine W w (OnO b1) ((x, (sp, sc, seenL (8 * x.1.length + 1) (fl.take j))), (p, c, fl))) (fun j _ => fl.length - j) 0 ⟨rfl, rfl, rfl, rfl, rfl, trivial⟩ ⟨by omega, hM⟩ ?_⟩
  clear hM
  rintro j w ⟨j1, hM⟩
  rw [t4_5]
  refine ⟨fun g => ?_, fun g => ?_⟩
  · have hj : j < fl.length := by simp at g; omega
    obtain ⟨_, hA, hT⟩ := hM.right
    obtain ⟨a, ha, hc⟩ := hA.cells.at1 hj
    subst ha
    clear hA hT
    obtain ⟨_, hA, hT⟩ := hM.lr
    simp only at hA
    have hin := out_in ((hme _).1 (List.getElem_mem hj))
    unfold inP at hin
    obtain ⟨v, hv⟩ : ∃ v : Nat, fl[j] = (v : Int) := ⟨fl[j].toNat, by omega⟩
    rw [hv] at hc hin
    have hvl : v < (seenL (8 * x.1.length + 1) (fl.take j)).length := by rw [seenL_len]; omega
    obtain ⟨a2, ha2, hc2⟩ := hA.at hvl
    rw [seenL_at] at hc2
    have e1 : IntKind.wrap .i64 (8 * (x.1.length : Int)) = ((8 * x.1.length : Nat) : Int) := by rw [w64 (by omega)]; omega
    rw [e1]
    have hnot : fl[j] ∉ fl.take j := by
      intro hmem
      obtain ⟨i, hi, hij⟩ := List.getElem_of_mem hmem
      have hij' : i < j := by simp at hi; omega
      rw [List.getElem_take] at hij
      exact absurd hij (List.pairwise_iff_getElem.1 hnd i j (by omega) hj hij')
    rw [hv] at hnot
    have hb : decide ((v : Int) ∈ fl.take j) = false := by simpa using hnot
    rw [hb] at hc2
    have hwr := Lv.wr hA hvl (v := true) (K := fun w' => ∃ s : Nat, CoversL (e4_5 (x.1.length : Int) (some ⟨b1, 0, none⟩) sp (8 * x.1.length + 1) sc (some a) fl.length c (IntKind.wrap .i64 ((j : Int) + 1))) (e4_5 (x.1.length : Int) (some ⟨b1, 0, none⟩) sp (8 * x.1.length + 1) sc (some a) fl.length c (s : Int)) ∧ (s ≤ fl.length ∧ Mine W w' (OnO b1) ((x, (sp, sc, seenL (8 * x.1.length + 1) (fl.take s))), (some a, c, fl))) ∧ fl.length - s < fl.length - j) (fun w' hT2 => by
      have hM := hT _ _ hT2
      rw [seenL_more] at hM
      refine ⟨j + 1, ⟨rfl, rfl, rfl, rfl, by rw [w64 (by omega)]; rfl, trivial⟩, ⟨by omega, ?_⟩, by omega⟩
      rw [List.take_succ_eq_append_getElem hj, hv]
      exact hM)
    obtain ⟨a3, ha3, hW⟩ := hwr
    rw [ha2] at ha3
    cases ha3
    have hvl2 : v < 8 * x.1.length + 1 := by rw [seenL_len] at hvl; exact hvl
    exact ⟨⟨by omega, by omega⟩, a, rfl, _, hc, fun g1 => ⟨⟨by omega, by omega⟩, a, rfl, _, hc, fun g2 => ⟨⟨by omega, by omega⟩, a, rfl, _, hc, ⟨by omega, by omega⟩, a2, ha2, _, hc2, ⟨fun g3 => (by cases g3), fun _ => ⟨⟨by omega, by omega⟩, a, rfl, _, hc, ⟨by omega, by omega⟩, a2, ha2, hW⟩⟩⟩, fun g2 => by simp at g2; omega⟩, fun g1 => by simp at g1; omega⟩
  · have : j = fl.length := by simp at g; omega
    subst this
    exact once3 hM hct hl.2
end
theorem once0 {W w : World} {b1 : Nat} {m n : Int} {x : KS} (hM : Mine W w (StO b1) x) (hK : KI x) (hn : (x.1.length : Int) = n) (hm : (x.2.length : Int) = m) :
    CutD Try.prog M4 c4_0 (e4_0 m n (some ⟨b1, 0, none⟩)) w (k4_0 fun e w' => e = .returned (.bool true) ∧ Upd no W w') := by
  refine CutD.mk ?_
  rw [t4_0]
  subst hn
  subst hm
  have hl := hK.pg.len
  have hct := all_count hK
  have e0 : IntKind.wrap .i64 (IntKind.wrap .i64 (8 * (x.1.length : Int)) + 1) = ((8 * x.1.length + 1 : Nat) : Int) := by rw [w64 (x := 8 * (x.1.length : Int)) (by omega), w64 (by omega)]; omega
  rw [e0]
  obtain ⟨w1, hr, hU, hL⟩ := run_mkV (f := Value.bool) (x0 := false) elB w (n := 8 * x.1.length + 1) (by omega) (by omega) .i64 .i64
  refine ⟨_, _, _, w1, hr, ?_⟩
  replace hM := hM.add hU hL (fun i hi => by obtain ⟨a, ha, rfl⟩ := hi; cases ha; exact Nat.le_refl _)
  clear hU hL hr
  obtain ⟨_, hA, hT⟩ := hM.left
  refine ⟨(outsL_ok hA).mono ?_⟩
  rintro e w2 ⟨p, c, rfl, hL⟩
  replace hM : Mine W w2 (OnO b1) ((x, (some ⟨w.heap.size, 0, none⟩, 8 * x.1.length + 1, List.replicate (8 * x.1.length + 1) false)), (p, c, outsE x)) := hM.add hL.U ⟨fun _ => Iff.rfl, hL.S⟩ hL.F
  clear hA hT hL
  have e1 : List.replicate (8 * x.1.length + 1) false = seenL (8 * x.1.length + 1) [] := by
    apply List.ext_getElem
    · simp [seenL]
    · intro i h1 h2; simp [seenL]
  rw [e1] at hM
  refine ⟨_, _, _, rfl, ?_⟩
  refine ⟨WP_loop okProg (M := M4) (σ := Nat × Option Addr × Nat) (fun s => e4_4 (x.2.length : Int) (x.1.length : Int) (some ⟨b1, 0, none⟩) (some ⟨w.heap.size, 0, none⟩) (8 * x.1.length + 1) (8 * x.1.length + 1) s.2.1 (outsE x ++ (x.2.take s.1).flatten).length s.2.2 (s.1 : Int))
    (fun s w' => s.1 ≤ x.2.length ∧ Mine W w' (OnO b1) ((x, (some ⟨w.heap.size, 0, none⟩, 8 * x.1.length + 1, seenL (8 * x.1.length + 1) [])), (s.2.1, s.2.2, outsE x ++ (x.2.take s.1).flatten))) (fun s _ => x.2.length - s.1) (0, p, c)
    ⟨rfl, rfl, rfl, rfl, by simp only [List.take_zero, List.flatten_nil, List.append_nil]; rfl, rfl, trivial⟩ ⟨by simp, by simpa using hM⟩ ?_⟩
  clear hM
  rintro ⟨j, p, c⟩ w3 ⟨j1, hM⟩
  simp only at j1 hM ⊢
  rw [t4_4]
  have hml : x.2.length ≤ maxLen := by
    obtain ⟨_, hA, _⟩ := hM.ll
    obtain ⟨_, _, _, h, _⟩ := hA.rows
    exact h
  refine ⟨fun g => ?_, fun g => ?_⟩
  · have hj : j < x.2.length := by simp at g; omega
    have h4 : x.2[j].length ≤ 4 := hK.le _ (List.getElem_mem hj)
    have hfl := flat_le x.2 j
    have ek : keptE x (j : Int) = x.2[j] := by rw [keptE, if_pos (inC_of hj), rowC_at hj]
    obtain ⟨_, hA, hT⟩ := hM.ll
    have hkp := keptL_ok hA (j : Int)
    simp only [ek] at hkp
    refine ⟨hkp.mono ?_⟩
    rintro e w4 ⟨p5, c5, rfl, hL⟩
    replace hM := hM.upd hL.U
    clear hA hT
    obtain ⟨_, hA, hT⟩ := hM.right
    obtain ⟨p', c', w5, hr, hU⟩ := Ls.more elI hA hL.S.cells (d := c5) (fun e => by have := hL.S; subst e; exact this.2.2.2.2) (by simp only [List.length_append]; omega) 35
    replace hM := hT _ _ hU
    simp only at hr hM
    refine ⟨_, _, _, rfl, fun g => by simp at g; omega, fun _ => ⟨p', _, c', w5, hr, (j + 1, p', c'), ⟨rfl, rfl, rfl, rfl, by rw [flat_take hj, List.append_assoc]; rfl, by rw [w64 (by unfold maxLen at *; omega)]; rfl, trivial⟩, ⟨by simp only; omega, ?_⟩, by simp only; omega⟩⟩
    rw [flat_take hj, ← List.append_assoc]
    exact hM
  · have : j = x.2.length := by simp at g; omega
    subst this
    rw [List.take_length] at hM ⊢
    exact once2 hM hK

theorem stashOnce_ok {W : World} {m n : Int} {p : Option Addr} {l : List (Int × Int × Int)} {c : Nat} (_ : (Lit.int .i64 m).wf = true) (_ : (Lit.int .i64 n).wf = true) (_ : ∀ x ∈ l, okIII x) (h : Cells W p (l.flatMap recIII)) (_ : l.length ≤ maxLen) :
    Calls Try.prog 4 #[.int .i64 m, .int .i64 n, .slice p l.length c] W fun e w' => e = .returned (.bool true) ∧ Upd no W w' := by
  refine u4 ?_
  rw [t4]
  refine ⟨(snew_ok m n W).mono ?_⟩
  rintro e w1 (⟨hno, rfl, hU⟩ | ⟨hyes, b1, F1, rfl, hQ, hU, hF⟩)
  · have hk : Call Try.prog 9 [] w1 fun e w' => ∃ b, e = .returned (.bool b) ∧ Ending.returned (.bool b) = .returned (.bool true) ∧ Upd no W w' := ⟨(known_ok w1).mono fun e w' ⟨h1, h2⟩ => ⟨_, h1, rfl, hU.and h2⟩⟩
    refine ⟨_, _, rfl, fun _ => ⟨fun g1 => ⟨fun g2 => ⟨fun g3 => ⟨fun _ => hk, fun g4 => ?_⟩, fun _ => hk⟩, fun _ => hk⟩, fun _ => hk⟩, fun g => by simp at g⟩
    unfold okNew at hno
    simp at g1 g2 g3 g4
    omega
  · have hM : Mine W w1 (StO b1) (newK m n) := Mine.new (Upd.refl _ _) hU hQ hF
    clear hU hQ hF
    refine ⟨_, _, rfl, fun g => by simp at g, fun _ => ?_⟩
    refine ⟨WP_loop okProg (M := M4) (σ := Nat × KS) (fun x => e4_1 m n p l.length c (some ⟨b1, 0, none⟩) (x.1 : Int))
      (fun x w => x.1 ≤ l.length ∧ x.1 ≤ 120 ∧ KI x.2 ∧ (x.2.1.length : Int) = n ∧ (x.2.2.length : Int) = m ∧ Mine W w (StO b1) x.2) (fun x _ => l.length - x.1) (0, newK m n) ⟨rfl, rfl, rfl, rfl, rfl, trivial⟩ ⟨by simp, by simp, KI.new hyes, by unfold okNew at hyes; simp [newK]; omega, by unfold okNew at hyes; simp [newK]; omega, hM⟩ ?_⟩
    clear hM
    rintro ⟨i, x⟩ w ⟨h1, h2, hK, hn, hm, hM⟩
    simp only at h1 h2 hK hn hm hM ⊢
    have hgo : CutD Try.prog M4 c4_0 (e4_0 m n (some ⟨b1, 0, none⟩)) w (k4_0 fun e w' => e = .returned (.bool true) ∧ Upd no W w') := once0 hM hK hn hm
    rw [t4_1]
    refine ⟨fun g1 => ⟨fun g2 => ?_, fun g2 => hgo⟩, fun g1 => hgo⟩
    have hi : i < l.length := by simpa using g1
    have hi2 : i < 120 := by simp at g2; omega
    have go : ∀ w' y, KI y → y.1.length = x.1.length → y.2.length = x.2.length → Mine W w' (StO b1) y → ∃ s : Nat × KS, CoversL (e4_1 m n p l.length c (some ⟨b1, 0, none⟩) (IntKind.wrap .i64 ((i : Int) + 1))) (e4_1 m n p l.length c (some ⟨b1, 0, none⟩) (s.1 : Int)) ∧ (s.1 ≤ l.length ∧ s.1 ≤ 120 ∧ KI s.2 ∧ (s.2.1.length : Int) = n ∧ (s.2.2.length : Int) = m ∧ Mine W w' (StO b1) s.2) ∧ l.length - s.1 < l.length - i := fun w' y hy k1 k2 hM =>
      ⟨(i + 1, y), ⟨rfl, rfl, rfl, rfl, by rw [w64 (by omega)]; rfl, trivial⟩, ⟨by simp only; omega, by simp only; omega, hy, by simp only; omega, by simp only; omega, hM⟩, by simp only; omega⟩
    obtain ⟨a, ha, hc⟩ := (h.no hM.U).atk recIII_len (by omega) hi
    have alc : Call Try.prog 20 [Value.pointer (some ⟨b1, 0, none⟩), Value.int IntKind.i64 l[i].2.1] w fun e w' => ∃ n1 n2, e = .returned (.tuple #[.int .i64 n1, .int .i64 n2]) ∧ ∃ s : Nat × KS, CoversL (e4_1 m n p l.length c (some ⟨b1, 0, none⟩) (IntKind.wrap .i64 ((i : Int) + 1))) (e4_1 m n p l.length c (some ⟨b1, 0, none⟩) (s.1 : Int)) ∧ (s.1 ≤ l.length ∧ s.1 ≤ 120 ∧ KI s.2 ∧ (s.2.1.length : Int) = n ∧ (s.2.2.length : Int) = m ∧ Mine W w' (StO b1) s.2) ∧ l.length - s.1 < l.length - i := by
      obtain ⟨_, hA, hT⟩ := hM.turn
      refine ⟨(salloc_ok hA _).mono ?_⟩
      rintro e w2 ⟨rfl, hU⟩
      exact ⟨_, _, rfl, go _ _ (hK.alloc _) (allocS_len _ _).1 (allocS_len _ _).2 (hT _ _ hU)⟩
    have giv : ∀ w2, Upd no w w2 → Call Try.prog 21 [Value.pointer (some ⟨b1, 0, none⟩), Value.int IntKind.i64 l[i].2.1, Value.int IntKind.i64 l[i].2.2] w2 fun e w' => ∃ n1, e = .returned (.int .i64 n1) ∧ ∃ s : Nat × KS, CoversL (e4_1 m n p l.length c (some ⟨b1, 0, none⟩) (IntKind.wrap .i64 ((i : Int) + 1))) (e4_1 m n p l.length c (some ⟨b1, 0, none⟩) (s.1 : Int)) ∧ (s.1 ≤ l.length ∧ s.1 ≤ 120 ∧ KI s.2 ∧ (s.2.1.length : Int) = n ∧ (s.2.2.length : Int) = m ∧ Mine W w' (StO b1) s.2) ∧ l.length - s.1 < l.length - i := by
      intro w2 hU
      replace hM := hM.upd hU
      obtain ⟨_, hA, hT⟩ := hM.turn
      refine ⟨(sgive_ok hA _ _).mono ?_⟩
      rintro e w2 ⟨rfl, hU⟩
      exact ⟨_, rfl, go _ _ (hK.give _ _) (sgiveS_len _ _ _).1 (sgiveS_len _ _ _).2 (hT _ _ hU)⟩
    refine ⟨⟨by omega, by omega⟩, a, ha, _, hc 0 _ rfl, by decide, fun g3 => ⟨⟨by omega, by omega⟩, a, ha, _, hc 1 _ rfl, alc⟩, fun g3 => ?_⟩
    · refine ⟨fun g4 w2 q1 q2 q3 q4 => ?_, fun g4 => ⟨⟨by omega, by omega⟩, a, ha, _, hc 1 _ rfl, ?_⟩⟩
      · have hS := Upd.same no q1 q2 q3 q4
        obtain ⟨a, ha, hc⟩ := (h.no (hM.U.and hS)).atk recIII_len (by omega) hi
        exact ⟨⟨by omega, by omega⟩, a, ha, _, hc 1 _ rfl, ⟨by omega, by omega⟩, a, ha, _, hc 2 _ rfl, giv _ hS⟩
      · obtain ⟨_, hA, hT⟩ := hM.turn
        refine ⟨(drain_ok hA _).mono ?_⟩
        rintro e w2 ⟨rfl, hU⟩
        exact ⟨_, _, rfl, go _ _ (hK.drain _).1 (drainS_len _ _).1 (drainS_len _ _).2 (hT _ _ hU)⟩

/-! ### StashDrains -/
theorem drains0 {W w : World} {b1 : Nat} {m n : Int} {x : KS} (hM : Mine W w (StO b1) x) (hK : KI x) (hn : (x.1.length : Int) = n) (hm : (x.2.length : Int) = m) :
    CutD Try.prog M5 c5_0 (e5_0 m n (some ⟨b1, 0, none⟩)) w (k5_0 fun e w' => e = .returned (.bool true) ∧ Upd no W w') := by
  refine CutD.mk ?_
  rw [t5_0]
  subst hn
  subst hm
  have hl := hK.pg.len
  obtain ⟨_, hA, hT⟩ := hM.turn
  refine ⟨(outsL_ok hA).mono ?_⟩
  rintro e w2 ⟨p, c, rfl, hL⟩
  replace hM : Mine W w2 (Star (StO b1) (Ls 3)) (x, (p, c, outsE x)) := hM.add hL.U ⟨fun _ => Iff.rfl, hL.S⟩ hL.F
  clear hA hT hL
  refine ⟨_, _, _, rfl, ?_⟩
  refine ⟨WP_loop okProg (M := M5) (σ := Nat × KS) (fun s => e5_3 (x.2.length : Int) (x.1.length : Int) (some ⟨b1, 0, none⟩) p (outsE x).length c (s.1 : Int))
    (fun s w' => s.1 ≤ x.2.length ∧ KI s.2 ∧ s.2.1.length = x.1.length ∧ s.2.2.length = x.2.length ∧ (∀ v, hasE s.2 v = hasE x v) ∧ (∀ l ∈ s.2.2.take s.1, l = []) ∧ Mine W w' (Star (StO b1) (Ls 3)) (s.2, (p, c, outsE x))) (fun s _ => x.2.length - s.1) (0, x)
    ⟨rfl, rfl, rfl, rfl, rfl, trivial⟩ ⟨by simp, hK, rfl, rfl, fun _ => rfl, by simp, hM⟩ ?_⟩
  clear hM
  rintro ⟨j, y⟩ w3 ⟨j1, hY, k1, k2, k3, k4, hM⟩
  simp only at j1 hY k1 k2 k3 k4 hM ⊢
  rw [t5_3]
  have hml : y.2.length ≤ maxLen := by
    obtain ⟨_, hA, _⟩ := hM.left
    obtain ⟨_, _, _, h, _⟩ := hA.rows
    exact h
  refine ⟨fun g => ?_, fun g => ?_⟩
  · have hj : j < y.2.length := by simp at g; omega
    have ek : keptE y (j : Int) = y.2[j] := by rw [keptE, if_pos (inC_of hj), rowC_at hj]
    have ed : drainE y (j : Int) = ((y.2[j].length : Int), 0) := by rw [drainE, if_pos (inC_of hj), rowC_at hj]
    have es : drainS y (j : Int) = (gives y.1 y.2[j], y.2.set j []) := by rw [drainS, if_pos (inC_of hj), rowC_at hj]; rfl
    have hd := hY.drain (j : Int)
    have hdl := drainS_len y (j : Int)
    have ek2 : keptE (drainS y (j : Int)) (j : Int) = [] := by
      have hj2 : j < (drainS y (j : Int)).2.length := by rw [hdl.2]; exact hj
      rw [keptE, if_pos (inC_of hj2), rowC_at hj2]
      simp only [es, List.getElem_set_self]
    obtain ⟨_, hA, hT⟩ := hM.left
    have hkp := kept_ok hA (j : Int)
    simp only [ek] at hkp
    refine ⟨hkp.mono ?_⟩
    rintro e w4 ⟨p5, c5, rfl, _, hU⟩
    replace hM := hM.upd hU
    clear hA hT hU hkp
    obtain ⟨_, hA, hT⟩ := hM.left
    have hdr := drain_ok hA (j : Int)
    simp only [ed] at hdr
    refine ⟨_, _, _, rfl, ⟨hdr.mono ?_⟩⟩
    rintro e w5 ⟨rfl, hU⟩
    replace hM := hT _ _ hU
    clear hA hT hU hdr
    refine ⟨_, _, rfl, fun _ => ⟨fun _ => ?_, fun g => by simp at g⟩, fun g => by simp at g⟩
    obtain ⟨_, hA, hT⟩ := hM.left
    have hkp := kept_ok hA (j : Int)
    simp only [ek2] at hkp
    refine ⟨hkp.mono ?_⟩
    rintro e w6 ⟨p6, c6, rfl, _, hU⟩
    replace hM := hM.upd hU
    refine ⟨_, _, _, rfl, fun g => by simp at g, fun _ => ⟨(j + 1, drainS y (j : Int)), ⟨rfl, rfl, rfl, rfl, by rw [w64 (by unfold maxLen at *; omega)]; rfl, trivial⟩, ⟨by simp only; omega, hd.1, by rw [hdl.1, k1], by rw [hdl.2, k2], fun v => by rw [hd.2, k3], ?_, hM⟩, by simp only; omega⟩⟩
    simp only [es]
    intro l hl2
    rw [List.take_succ_eq_append_getElem (by simpa using hj), List.mem_append] at hl2
    rcases hl2 with hl2 | hl2
    · rw [List.take_set_of_le (Nat.le_refl _)] at hl2
      exact k4 l hl2
    · simp at hl2; exact hl2
  · have : j = y.2.length := by simp at g; omega
    subst this
    rw [List.take_length] at k4
    have hfl : y.2.flatten.length = 0 := by
      have : y.2.flatten = [] := by simpa [List.flatten_eq_nil_iff] using k4
      rw [this]; rfl
    have hct := all_count hY
    rw [outs_eq k1 k3, k1, hfl] at hct
    refine CutD.mk ?_
    rw [t5_1]
    obtain ⟨_, hA, hT⟩ := hM.left
    refine ⟨(sfree_ok hA).mono ?_⟩
    rintro e w4 ⟨rfl, rfl⟩
    clear hA hT
    have e1 : IntKind.wrap .i64 (IntKind.wrap .i64 (8 * (x.1.length : Int)) - ((outsE x).length : Int)) = (freeN y.1 : Int) := by rw [w64 (x := 8 * (x.1.length : Int)) (by omega), w64 (by omega)]; omega
    refine ⟨_, rfl, fun _ => ?_, fun g => by rw [e1] at g; simp at g⟩
    obtain ⟨_, hA, hT⟩ := hM.left
    have ho := outs_ok hA
    simp only [outs_eq k1 k3] at ho
    refine ⟨ho.mono ?_⟩
    rintro e w5 ⟨p6, c6, rfl, hC, hU⟩
    replace hM := hM.upd hU
    clear hA hT hU
    obtain ⟨_, hA, hT⟩ := hM.right
    have hC2 := hA.cells
    refine ⟨_, _, _, rfl, ⟨(ints_ok hC hC2 (by omega)).mono ?_⟩⟩
    rintro e w6 ⟨rfl, hU⟩
    replace hM := hM.upd hU
    refine ⟨_, rfl, fun _ => ⟨(known_ok w6).mono ?_⟩, fun g => by simp at g⟩
    rintro e w7 ⟨rfl, hU⟩
    exact ⟨_, rfl, rfl, hM.U.and hU⟩
theorem stashDrains_ok {W : World} {m n : Int} {p : Option Addr} {l : List (Int × Int × Int)} {c : Nat} (_ : (Lit.int .i64 m).wf = true) (_ : (Lit.int .i64 n).wf = true) (_ : ∀ x ∈ l, okIII x) (h : Cells W p (l.flatMap recIII)) (_ : l.length ≤ maxLen) :
    Calls Try.prog 5 #[.int .i64 m, .int .i64 n, .slice p l.length c] W fun e w' => e = .returned (.bool true) ∧ Upd no W w' := by
  refine u5 ?_
  rw [t5]
  refine ⟨(snew_ok m n W).mono ?_⟩
  rintro e w1 (⟨hno, rfl, hU⟩ | ⟨hyes, b1, F1, rfl, hQ, hU, hF⟩)
  · have hk : Call Try.prog 9 [] w1 fun e w' => ∃ b, e = .returned (.bool b) ∧ Ending.returned (.bool b) = .returned (.bool true) ∧ Upd no W w' := ⟨(known_ok w1).mono fun e w' ⟨h1, h2⟩ => ⟨_, h1, rfl, hU.and h2⟩⟩
    refine ⟨_, _, rfl, fun _ => ⟨fun g1 => ⟨fun g2 => ⟨fun g3 => ⟨fun _ => hk, fun g4 => ?_⟩, fun _ => hk⟩, fun _ => hk⟩, fun _ => hk⟩, fun g => by simp at g⟩
    unfold okNew at hno
    simp at g1 g2 g3 g4
    omega
  · have hM : Mine W w1 (StO b1) (newK m n) := Mine.new (Upd.refl _ _) hU hQ hF
    clear hU hQ hF
    refine ⟨_, _, rfl, fun g => by simp at g, fun _ => ?_⟩
    refine ⟨WP_loop okProg (M := M5) (σ := Nat × KS) (fun x => e5_2 m n p l.length c (some ⟨b1, 0, none⟩) (x.1 : Int))
      (fun x w => x.1 ≤ l.length ∧ x.1 ≤ 120 ∧ KI x.2 ∧ (x.2.1.length : Int) = n ∧ (x.2.2.length : Int) = m ∧ Mine W w (StO b1) x.2) (fun x _ => l.length - x.1) (0, newK m n) ⟨rfl, rfl, rfl, rfl, rfl, trivial⟩ ⟨by simp, by simp, KI.new hyes, by unfold okNew at hyes; simp [newK]; omega, by unfold okNew at hyes; simp [newK]; omega, hM⟩ ?_⟩
    clear hM
    rintro ⟨i, x⟩ w ⟨h1, h2, hK, hn, hm, hM⟩
    simp only at h1 h2 hK hn hm hM ⊢
    have hgo : CutD Try.prog M5 c5_0 (e5_0 m n (some ⟨b1, 0, none⟩)) w (k5_0 fun e w' => e = .returned (.bool true) ∧ Upd no W w') := drains0 hM hK hn hm
    rw [t5_2]
    refine ⟨fun g1 => ⟨fun g2 => ?_, fun g2 => hgo⟩, fun g1 => hgo⟩
    have hi : i < l.length := by simpa using g1
    have hi2 : i < 120 := by simp at g2; omega
    have go : ∀ w' y, KI y → y.1.length = x.1.length → y.2.length = x.2.length → Mine W w' (StO b1) y → ∃ s : Nat × KS, CoversL (e5_2 m n p l.length c (some ⟨b1, 0, none⟩) (IntKind.wrap .i64 ((i : Int) + 1))) (e5_2 m n p l.length c (some ⟨b1, 0, none⟩) (s.1 : Int)) ∧ (s.1 ≤ l.length ∧ s.1 ≤ 120 ∧ KI s.2 ∧ (s.2.1.length : Int) = n ∧ (s.2.2.length : Int) = m ∧ Mine W w' (StO b1) s.2) ∧ l.length - s.1 < l.length - i := fun w' y hy k1 k2 hM =>
      ⟨(i + 1, y), ⟨rfl, rfl, rfl, rfl, by rw [w64 (by omega)]; rfl, trivial⟩, ⟨by simp only; omega, by simp only; omega, hy, by simp only; omega, by simp only; omega, hM⟩, by simp only; omega⟩
    obtain ⟨a, ha, hc⟩ := (h.no hM.U).atk recIII_len (by omega) hi
    have alc : Call Try.prog 20 [Value.pointer (some ⟨b1, 0, none⟩), Value.int IntKind.i64 l[i].2.1] w fun e w' => ∃ n1 n2, e = .returned (.tuple #[.int .i64 n1, .int .i64 n2]) ∧ ∃ s : Nat × KS, CoversL (e5_2 m n p l.length c (some ⟨b1, 0, none⟩) (IntKind.wrap .i64 ((i : Int) + 1))) (e5_2 m n p l.length c (some ⟨b1, 0, none⟩) (s.1 : Int)) ∧ (s.1 ≤ l.length ∧ s.1 ≤ 120 ∧ KI s.2 ∧ (s.2.1.length : Int) = n ∧ (s.2.2.length : Int) = m ∧ Mine W w' (StO b1) s.2) ∧ l.length - s.1 < l.length - i := by
      obtain ⟨_, hA, hT⟩ := hM.turn
      refine ⟨(salloc_ok hA _).mono ?_⟩
      rintro e w2 ⟨rfl, hU⟩
      exact ⟨_, _, rfl, go _ _ (hK.alloc _) (allocS_len _ _).1 (allocS_len _ _).2 (hT _ _ hU)⟩
    have giv : ∀ w2, Upd no w w2 → Call Try.prog 21 [Value.pointer (some ⟨b1, 0, none⟩), Value.int IntKind.i64 l[i].2.1, Value.int IntKind.i64 l[i].2.2] w2 fun e w' => ∃ n1, e = .returned (.int .i64 n1) ∧ ∃ s : Nat × KS, CoversL (e5_2 m n p l.length c (some ⟨b1, 0, none⟩) (IntKind.wrap .i64 ((i : Int) + 1))) (e5_2 m n p l.length c (some ⟨b1, 0, none⟩) (s.1 : Int)) ∧ (s.1 ≤ l.length ∧ s.1 ≤ 120 ∧ KI s.2 ∧ (s.2.1.length : Int) = n ∧ (s.2.2.length : Int) = m ∧ Mine W w' (StO b1) s.2) ∧ l.length - s.1 < l.length - i := by
      intro w2 hU
      replace hM := hM.upd hU
      obtain ⟨_, hA, hT⟩ := hM.turn
      refine ⟨(sgive_ok hA _ _).mono ?_⟩
      rintro e w2 ⟨rfl, hU⟩
      exact ⟨_, rfl, go _ _ (hK.give _ _) (sgiveS_len _ _ _).1 (sgiveS_len _ _ _).2 (hT _ _ hU)⟩
    refine ⟨⟨by omega, by omega⟩, a, ha, _, hc 0 _ rfl, by decide, fun g3 => ⟨⟨by omega, by omega⟩, a, ha, _, hc 1 _ rfl, alc⟩, fun g3 => ?_⟩
    · intro w2 q1 q2 q3 q4
      have hS := Upd.same no q1 q2 q3 q4
      obtain ⟨a, ha, hc⟩ := (h.no (hM.U.and hS)).atk recIII_len (by omega) hi
      exact ⟨⟨by omega, by omega⟩, a, ha, _, hc 1 _ rfl, ⟨by omega, by omega⟩, a, ha, _, hc 2 _ rfl, giv _ hS⟩

end Go.Dav
