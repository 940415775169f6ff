/- The statements on queues of numbers: what their functions come to. -/
import Derived.Test.YtejjmnhjpbokpaaRFifo03
set_option linter.unusedSimpArgs false
set_option linter.unusedVariables false
namespace Go.Dav
open Go.Proofs

theorem qpushNil_ok (n : Int) (w : World) : Calls Try.prog 9 #[.pointer none, .int .i64 n] w fun e w' => e = .returned (.int .i64 1) ∧ w' = w := by
  refine u9 ?_
  rw [t9]
  first | exact ⟨fun _ => ⟨rfl, rfl⟩, fun h => by simp at h⟩ | exact ⟨fun h => by simp at h, fun _ => ⟨rfl, rfl⟩⟩
theorem qdropNil_ok (n : Int) (w : World) : Calls Try.prog 17 #[.pointer none, .int .i64 n] w fun e w' => e = .returned (.int .i64 1) ∧ w' = w := by
  refine u17 ?_
  rw [t17]
  first | exact ⟨fun _ => ⟨rfl, rfl⟩, fun h => by simp at h⟩ | exact ⟨fun h => by simp at h, fun _ => ⟨rfl, rfl⟩⟩
theorem qfrontNil_ok  (w : World) : Calls Try.prog 20 #[.pointer none] w fun e w' => e = .returned (.tuple #[.int .i64 0, .int .i64 1]) ∧ w' = w := by
  refine u20 ?_
  rw [t20]
  first | exact ⟨fun _ => ⟨rfl, rfl⟩, fun h => by simp at h⟩ | exact ⟨fun h => by simp at h, fun _ => ⟨rfl, rfl⟩⟩
theorem qlenNil_ok  (w : World) : Calls Try.prog 22 #[.pointer none] w fun e w' => e = .returned (.int .i64 0) ∧ w' = w := by
  refine u22 ?_
  rw [t22]
  first | exact ⟨fun _ => ⟨rfl, rfl⟩, fun h => by simp at h⟩ | exact ⟨fun h => by simp at h, fun _ => ⟨rfl, rfl⟩⟩
theorem qcapNil_ok  (w : World) : Calls Try.prog 23 #[.pointer none] w fun e w' => e = .returned (.int .i64 0) ∧ w' = w := by
  refine u23 ?_
  rw [t23]
  first | exact ⟨fun _ => ⟨rfl, rfl⟩, fun h => by simp at h⟩ | exact ⟨fun h => by simp at h, fun _ => ⟨rfl, rfl⟩⟩
theorem qpopNil_ok  (w : World) : Calls Try.prog 10 #[.pointer none] w fun e w' => e = .returned (.tuple #[.int .i64 0, .int .i64 1]) ∧ w' = w := by
  refine u10 ?_
  rw [t10]
  refine ⟨(qfrontNil_ok w).mono ?_⟩
  rintro e w' ⟨rfl, rfl⟩
  exact ⟨_, _, rfl, fun h => by simp at h, fun _ => ⟨rfl, rfl⟩⟩
theorem qturnNil_ok  (w : World) : Calls Try.prog 12 #[.pointer none] w fun e w' => e = .returned (.int .i64 1) ∧ w' = w := by
  refine u12 ?_
  rw [t12]
  refine ⟨(qpopNil_ok w).mono ?_⟩
  rintro e w' ⟨rfl, rfl⟩
  exact ⟨_, _, rfl, fun _ => ⟨rfl, rfl⟩, fun h => by simp at h⟩
theorem qhasNil_ok (n : Int) (w : World) : Calls Try.prog 24 #[.pointer none, .int .i64 n] w fun e w' => e = .returned (.bool false) ∧ w' = w := by
  refine u24 ?_
  rw [t24]
  refine ⟨(listNil_ok w).mono ?_⟩
  rintro e w' ⟨rfl, rfl⟩
  refine ⟨_, _, _, rfl, ⟨(contains_ok (l := []) (Cells.nil _ _) (by decide) n).mono ?_⟩⟩
  rintro e w' ⟨rfl, rfl⟩
  exact ⟨_, rfl, rfl, rfl⟩

theorem known_ok (w : World) : Calls Try.prog 8 #[] w fun e w' => e = .returned (.bool true) ∧ Upd no w w' := by
  refine u8 ?_
  rw [t8]
  refine ⟨(new_ok _ _).mono ?_⟩
  rintro e w2 hh
  obtain ⟨_, b1, F1, rfl, hQ, hU, hF⟩ := hh.resolve_left (fun h => absurd (by omega) h.1)
  have hM : Mine w w2 (FqO b1) (2, []) := by
    exact Mine.new (Upd.refl _ _) hU hQ hF
  clear hU hQ hF
  refine ⟨_, _, rfl, ?_⟩
  refine ⟨fun g1 => ?_, fun g1 => ?_⟩
  · refine ⟨fun g2 => ?_, fun g2 => ?_⟩
    · first | exact absurd g2 (by decide) | (simp at g2; done)
    · obtain ⟨_, hA, hT⟩ := hM.turn
      refine ⟨(qpush_ok hA _).mono ?_⟩
      rintro e w2 ⟨rfl, hU⟩
      replace hM := hT _ _ hU
      clear hA hT hU
      refine ⟨_, rfl, ?_⟩
      obtain ⟨_, hA, hT⟩ := hM.turn
      refine ⟨(qpush_ok hA _).mono ?_⟩
      rintro e w2 ⟨rfl, hU⟩
      replace hM := hT _ _ hU
      clear hA hT hU
      refine ⟨_, rfl, ?_⟩
      obtain ⟨_, hA, hT⟩ := hM.turn
      refine ⟨(qpush_ok hA _).mono ?_⟩
      rintro e w2 ⟨rfl, hU⟩
      replace hM := hT _ _ hU
      clear hA hT hU
      refine ⟨_, rfl, ?_⟩
      obtain ⟨_, hA, hT⟩ := hM.turn
      refine ⟨(qturn_ok hA).mono ?_⟩
      rintro e w2 ⟨rfl, hU⟩
      replace hM := hT _ _ hU
      clear hA hT hU
      refine ⟨_, rfl, ?_⟩
      refine ⟨fun g3 => ?_, fun g3 => ?_⟩
      · refine ⟨fun g4 => ?_, fun g4 => ?_⟩
        · refine ⟨fun g5 => ?_, fun g5 => ?_⟩
          · refine ⟨fun g6 => ?_, fun g6 => ?_⟩
            · obtain ⟨_, hA, hT⟩ := hM.turn
              refine ⟨(qlist_ok hA).mono ?_⟩
              rintro e w2 ⟨_, _, rfl, hC, hU⟩
              replace hM := hM.upd hU
              clear hA hT hU
              refine ⟨_, _, _, rfl, ?_⟩
              refine ⟨fun w2 hN => ?_⟩
              have hC2 := (Sl.new (T := 3) (n := 2) (sz := 1) (cs := ([7, 5] : List Int).map (Value.int .i64)) hN (by simp) (by decide)).cells
              replace hM := hM.upd (hN.upd no)
              replace hC := hC.no (hN.upd no)
              refine ⟨(ints_ok hC hC2 (by decide)).mono ?_⟩
              rintro e w2 ⟨rfl, hU⟩
              replace hM := hM.upd hU
              clear hU
              refine ⟨_, rfl, ?_⟩
              exact ⟨congrArg (fun b => Ending.returned (Value.bool b)) (by decide), hM.U⟩
            · first | exact absurd g6 (by decide) | (simp at g6; done)
          · first | exact absurd g5 (by decide) | (simp at g5; done)
        · first | exact absurd g4 (by decide) | (simp at g4; done)
      · first | exact absurd g3 (by decide) | (simp at g3; done)
  · first | exact absurd g1 (by decide) | (simp at g1; done)

theorem fifoNil_ok {W : World} {n : Int} (_ : (Lit.int .i64 n).wf = true) : Calls Try.prog 6 #[.int .i64 n] W fun e w' => e = .returned (.bool true) ∧ Upd no W w' := by
  refine u6 ?_
  rw [t6]
  refine ⟨(qpopNil_ok _).mono ?_⟩
  rintro e w2 ⟨rfl, rfl⟩
  refine ⟨_, _, rfl, ?_⟩
  refine ⟨(qfrontNil_ok _).mono ?_⟩
  rintro e w2 ⟨rfl, rfl⟩
  refine ⟨_, _, rfl, ?_⟩
  refine ⟨(qpushNil_ok _ _).mono ?_⟩
  rintro e w2 ⟨rfl, rfl⟩
  refine ⟨_, rfl, ?_⟩
  refine ⟨fun g1 => ?_, fun g1 => ?_⟩
  · refine ⟨fun g2 => ?_, fun g2 => ?_⟩
    · refine ⟨fun g3 => ?_, fun g3 => ?_⟩
      · refine ⟨(qdropNil_ok _ _).mono ?_⟩
        rintro e w2 ⟨rfl, rfl⟩
        refine ⟨_, rfl, ?_⟩
        refine ⟨fun g4 => ?_, fun g4 => ?_⟩
        · refine ⟨(qturnNil_ok _).mono ?_⟩
          rintro e w2 ⟨rfl, rfl⟩
          refine ⟨_, rfl, ?_⟩
          refine ⟨fun g5 => ?_, fun g5 => ?_⟩
          · refine ⟨(qhasNil_ok _ _).mono ?_⟩
            rintro e w2 ⟨rfl, rfl⟩
            refine ⟨_, rfl, ?_⟩
            refine ⟨fun g6 => ?_, fun g6 => ?_⟩
            · refine ⟨(qlenNil_ok _).mono ?_⟩
              rintro e w2 ⟨rfl, rfl⟩
              refine ⟨_, rfl, ?_⟩
              refine ⟨fun g7 => ?_, fun g7 => ?_⟩
              · refine ⟨(qcapNil_ok _).mono ?_⟩
                rintro e w2 ⟨rfl, rfl⟩
                refine ⟨_, rfl, ?_⟩
                refine ⟨fun g8 => ?_, fun g8 => ?_⟩
                · refine ⟨(listNil_ok _).mono ?_⟩
                  rintro e w2 ⟨rfl, rfl⟩
                  refine ⟨_, _, _, rfl, ?_⟩
                  refine ⟨fun g9 => ?_, fun g9 => ?_⟩
                  · refine ⟨(known_ok _).mono ?_⟩
                    rintro e w2 ⟨rfl, hU⟩
                    refine ⟨_, rfl, ?_⟩
                    exact ⟨rfl, hU⟩
                  · exact absurd g9 (by decide)
                · exact absurd g8 (by decide)
              · exact absurd g7 (by decide)
            · exact absurd g6 (by decide)
          · exact absurd g5 (by decide)
        · exact absurd g4 (by decide)
      · exact absurd g3 (by decide)
    · exact absurd g2 (by decide)
  · exact absurd g1 (by decide)

theorem push_cap (x : Nat × List Int) (n : Int) : (pushS x n).1 = x.1 := by unfold pushS; split <;> rfl
theorem pop_cap (x : Nat × List Int) : (popS x).1 = x.1 := rfl
theorem drop_cap (x : Nat × List Int) (n : Int) : (dropS x n).1 = x.1 := rfl
theorem turn_cap (x : Nat × List Int) : (turnS x).1 = x.1 := by unfold turnS; split <;> rfl

theorem r5_3 {W w : World} {p : Option Addr} {n c : Nat} {b1 b2 : Nat} {i most m : Int} {x : Nat × List Int} {y : Option Addr × Nat} {B : Env → World → Prop}
    (hM : Mine W w (Star (FqO b1) (RfO b2)) (x, (x, y))) (hl1 : x.2.length ≤ x.1) (hl2 : x.1 ≤ 1024) (hcap : (x.1 : Int) = most)
    (hB : ∀ w', Mine W w' (Star (FqO b1) (RfO b2)) (x, (x, y)) → B (e5_1 most p n c m (some ⟨b1, 0, none⟩) (some ⟨b2, 0, none⟩) (IntKind.wrap .i64 (i + 1))) w') :
    CutD Try.prog M5 c5_3 (e5_3 most p n c m (some ⟨b1, 0, none⟩) (some ⟨b2, 0, none⟩) i) w (k5_3 B fun e w' => e = .returned (.bool true) ∧ Upd no W w') := by
  refine CutD.mk ?_
  rw [t5_3]
  obtain ⟨_, hA, hT⟩ := hM.left
  refine ⟨(qfront_ok hA).mono ?_⟩
  rintro e w2 ⟨rfl, hU⟩
  replace hM := hM.upd hU
  clear hA hT hU
  refine ⟨_, _, rfl, ?_⟩
  obtain ⟨_, hA, hT⟩ := hM.right
  refine ⟨(rfront_ok hA).mono ?_⟩
  rintro e w2 ⟨rfl, rfl⟩
  clear hA hT
  refine ⟨_, _, rfl, ?_⟩
  intro w1 q1 q2 q3 q4
  replace hM := hM.upd (Upd.same no q1 q2 q3 q4)
  refine ⟨fun g1 => ?_, fun g1 => ?_⟩
  · refine ⟨fun g2 => ?_, fun g2 => ?_⟩
    · refine ⟨_, rfl, ?_⟩
      refine ⟨_, _, _,  (atHd hM.right).cell rfl, ?_⟩
      obtain ⟨_, hA, hT⟩ := hM.left
      refine ⟨(qlen_ok hA).mono ?_⟩
      rintro e w2 ⟨rfl, rfl⟩
      clear hA hT
      refine ⟨_, rfl, ?_⟩
      refine ⟨(atHd hM.right).cell rfl, ?_⟩
      refine ⟨fun g3 => ?_, fun g3 => ?_⟩
      · obtain ⟨_, hA, hT⟩ := hM.left
        refine ⟨(qcap_ok hA).mono ?_⟩
        rintro e w2 ⟨rfl, rfl⟩
        clear hA hT
        refine ⟨_, rfl, ?_⟩
        refine ⟨fun g4 => ?_, fun g4 => ?_⟩
        · refine ⟨_, rfl, ?_⟩
          refine ⟨_, _, _,  (atHd hM.right).cell rfl, ?_⟩
          obtain ⟨_, hA, hT⟩ := hM.left
          refine ⟨(qlist_ok hA).mono ?_⟩
          rintro e w2 ⟨_, _, rfl, hC, hU⟩
          replace hM := hM.upd hU
          clear hA hT hU
          refine ⟨_, _, _, rfl, ?_⟩
          refine ⟨(atHd hM.right).cell rfl, ?_⟩
          refine ⟨(ints_ok hC (atSl hM.right).cells (by simp only; omega)).mono ?_⟩
          rintro e w2 ⟨rfl, hU⟩
          replace hM := hM.upd hU
          clear hU
          refine ⟨_, rfl, ?_⟩
          refine ⟨fun g5 => ?_, fun g5 => ?_⟩
          · refine ⟨_, rfl, ?_⟩
            refine ⟨_, _, _,  (atHd hM.right).cell rfl, ?_⟩
            obtain ⟨_, hA, hT⟩ := hM.left
            refine ⟨(qhas_ok hA _).mono ?_⟩
            rintro e w2 ⟨rfl, hU⟩
            replace hM := hM.upd hU
            clear hA hT hU
            refine ⟨_, rfl, ?_⟩
            refine ⟨(atHd hM.right).cell rfl, ?_⟩
            refine ⟨(fHas_ok (atSl hM.right).cells (by simp only; omega) _).mono ?_⟩
            rintro e w2 ⟨rfl, rfl⟩
            refine ⟨_, rfl, ?_⟩
            refine ⟨fun g6 => ?_, fun g6 => ?_⟩
            · first | (simp only [hcap] at g6; simp at g6; done) | (simp [hcap] at g6; done) | (simp [hcap] at g6; omega)
            · exact hB _ hM
          · first | (simp only [hcap] at g5; simp at g5; done) | (simp [hcap] at g5; done) | (simp [hcap] at g5; omega)
        · first | (simp only [hcap] at g4; simp at g4; done) | (simp [hcap] at g4; done) | (simp [hcap] at g4; omega)
      · first | (simp only [hcap] at g3; simp at g3; done) | (simp [hcap] at g3; done) | (simp [hcap] at g3; omega)
    · first | (simp only [hcap] at g2; simp at g2; done) | (simp [hcap] at g2; done) | (simp [hcap] at g2; omega)
  · first | (simp only [hcap] at g1; simp at g1; done) | (simp [hcap] at g1; done) | (simp [hcap] at g1; omega)

theorem fifoPlays_ok {W : World} {most n : Int} {p : Option Addr} {l : List (Int × Int)} {c : Nat} (_ : (Lit.int .i64 most).wf = true) (_ : ∀ x ∈ l, okII x) (h : Cells W p (l.flatMap recII)) (_ : l.length ≤ maxLen) (_ : (Lit.int .i64 n).wf = true) :
    Calls Try.prog 5 #[.int .i64 most, .slice p l.length c, .int .i64 n] W fun e w' => e = .returned (.bool true) ∧ Upd no W w' := by
  refine u5 ?_
  rw [t5]
  refine ⟨(new_ok most W).mono ?_⟩
  rintro e w1 (⟨hno, rfl, rfl⟩ | ⟨hyes, b1, F1, rfl, hQ, hU, hF⟩)
  · refine ⟨_, _, rfl, ⟨(rnew_ok most w1).mono ?_⟩⟩
    rintro e w2 (⟨_, rfl, rfl⟩ | ⟨h, _⟩)
    · refine ⟨_, _, rfl, fun _ => ⟨fun g => by simp at g, fun _ => ⟨fun _ => ⟨(known_ok _).mono ?_⟩, fun g => by simp at g⟩⟩, fun g => by simp at g⟩
      rintro e w3 ⟨rfl, hU⟩
      exact ⟨_, rfl, rfl, hU⟩
    · exact absurd h hno
  · have hM : Mine W w1 (FqO b1) (most.toNat, []) := Mine.new (Upd.refl _ _) hU hQ hF
    refine ⟨_, _, rfl, ⟨(rnew_ok most w1).mono ?_⟩⟩
    rintro e w2 (⟨h, _⟩ | ⟨_, b2, F2, rfl, hQ2, hU2, hF2⟩)
    · exact absurd hyes h
    · replace hM : Mine W w2 (Star (FqO b1) (RfO b2)) ((most.toNat, []), ((most.toNat, []), none, 0)) := hM.add hU2 hQ2 hF2
      clear hU hQ hF hU2 hQ2 hF2
      refine ⟨_, _, rfl, fun _ => ⟨fun g => by simp at g, fun _ => ⟨fun g => by simp at g, fun _ => ?_⟩⟩, fun g => by simp at g⟩
      refine ⟨WP_loop okProg (M := M5) (σ := Nat × (Nat × List Int)) (fun x => e5_1 most p l.length c n (some ⟨b1, 0, none⟩) (some ⟨b2, 0, none⟩) (x.1 : Int))
        (fun x w => x.1 ≤ l.length ∧ x.1 ≤ 200 ∧ x.2.1 = most.toNat ∧ ∃ y, Mine W w (Star (FqO b1) (RfO b2)) (x.2, (x.2, y))) (fun x _ => l.length - x.1) (0, (most.toNat, [])) ⟨rfl, rfl, rfl, rfl, rfl, rfl, trivial⟩
        ⟨by simp, by simp, rfl, _, hM⟩ ?_⟩
      clear hM
      rintro ⟨i, x⟩ w ⟨h1, h2, hcap0, y, hM⟩
      simp only at h1 h2 hcap0 hM ⊢
      have hx := hM.left.choose_spec.1
      have hl1 := hx.len.1
      have hl2 := hx.len.2.1
      have hn := hx.nodup
      simp only at hl1 hl2 hn
      have hcap : (x.1 : Int) = most := by omega
      have hgo : CutD Try.prog M5 c5_0 e5_0 w (k5_0 fun e w' => e = .returned (.bool true) ∧ Upd no W w') := by
        refine CutD.mk ?_
        rw [t5_0]
        refine ⟨(known_ok _).mono ?_⟩
        rintro e w9 ⟨rfl, hU9⟩
        exact ⟨_, rfl, rfl, hM.U.and hU9⟩
      rw [t5_1]
      refine ⟨fun g1 => ?_, fun g1 => ?_⟩
      · refine ⟨fun g2 => ?_, fun g2 => ?_⟩
        · have hi : i < l.length := by simpa using g1
          have hi2 : i < 200 := by simp at g2; omega
          refine ⟨⟨by omega, by omega⟩, ?_⟩
          obtain ⟨_, ha, hc⟩ := (h.no hM.U).atk recII_len (by decide) hi
          cases ha
          refine ⟨_, rfl, ?_⟩
          refine ⟨_,  hc 0 _ rfl, ?_⟩
          refine ⟨by decide, ?_⟩
          refine ⟨fun g3 => ?_, fun g3 => ?_⟩
          · intro w1 q1 q2 q3 q4
            replace hM := hM.upd (Upd.same no q1 q2 q3 q4)
            refine ⟨⟨by omega, by omega⟩, ?_⟩
            obtain ⟨_, ha, hc⟩ := (h.no hM.U).atk recII_len (by decide) hi
            cases ha
            refine ⟨_, rfl, ?_⟩
            refine ⟨_,  hc 1 _ rfl, ?_⟩
            refine ⟨⟨by omega, by omega⟩, ?_⟩
            obtain ⟨_, ha, hc⟩ := (h.no hM.U).atk recII_len (by decide) hi
            cases ha
            refine ⟨_, rfl, ?_⟩
            refine ⟨_,  hc 1 _ rfl, ?_⟩
            obtain ⟨_, hA, hT⟩ := hM.left
            refine ⟨(qpush_ok hA _).mono ?_⟩
            rintro e w2 ⟨rfl, hU⟩
            replace hM := hT _ _ hU
            clear hA hT hU
            refine ⟨_, rfl, ?_⟩
            obtain ⟨_, ha, hc⟩ := (h.no hM.U).atk recII_len (by decide) hi
            cases ha
            refine ⟨hc 1 _ rfl, ?_⟩
            obtain ⟨_, hA, hT⟩ := hM.right
            refine ⟨(rpush_ok hA hl1 hl2 _).mono ?_⟩
            rintro e w2 ⟨rfl, _, hU⟩
            replace hM := hT _ _ hU
            clear hA hT hU
            refine ⟨_, rfl, ?_⟩
            refine ⟨fun g4 => ?_, fun g4 => ?_⟩
            · simp at g4
            · have hx := hM.left.choose_spec.1
              refine r5_3 hM hx.len.1 hx.len.2.1 (by first | exact hcap | (rw [show (pushS x l[i].2).1 = x.1 from push_cap ..]; exact hcap)) fun w4 hM => ?_
              exact ⟨(i + 1, (pushS x l[i].2)), ⟨rfl, rfl, rfl, rfl, rfl, by rw [w64 (by omega)]; rfl, trivial⟩, ⟨by simp only; omega, by simp only; omega, (push_cap ..).trans hcap0, _, hM⟩, by simp only; omega⟩
          · refine ⟨fun g5 => ?_, fun g5 => ?_⟩
            · obtain ⟨_, hA, hT⟩ := hM.left
              refine ⟨(qpop_ok hA).mono ?_⟩
              rintro e w2 ⟨rfl, hU⟩
              replace hM := hT _ _ hU
              clear hA hT hU
              refine ⟨_, _, rfl, ?_⟩
              obtain ⟨_, hA, hT⟩ := hM.right
              refine ⟨(rpop_ok hA hl1 hl2 hn).mono ?_⟩
              rintro e w2 ⟨rfl, _, hU⟩
              replace hM := hT _ _ hU
              clear hA hT hU
              refine ⟨_, _, rfl, ?_⟩
              refine ⟨fun g6 => ?_, fun g6 => ?_⟩
              · refine ⟨fun g7 => ?_, fun g7 => ?_⟩
                · simp at g7
                · have hx := hM.left.choose_spec.1
                  refine r5_3 hM hx.len.1 hx.len.2.1 (by first | exact hcap | (rw [show (popS x).1 = x.1 from pop_cap ..]; exact hcap)) fun w4 hM => ?_
                  exact ⟨(i + 1, (popS x)), ⟨rfl, rfl, rfl, rfl, rfl, by rw [w64 (by omega)]; rfl, trivial⟩, ⟨by simp only; omega, by simp only; omega, (pop_cap ..).trans hcap0, _, hM⟩, by simp only; omega⟩
              · simp at g6
            · refine ⟨fun g8 => ?_, fun g8 => ?_⟩
              · intro w1 q1 q2 q3 q4
                replace hM := hM.upd (Upd.same no q1 q2 q3 q4)
                refine ⟨⟨by omega, by omega⟩, ?_⟩
                obtain ⟨_, ha, hc⟩ := (h.no hM.U).atk recII_len (by decide) hi
                cases ha
                refine ⟨_, rfl, ?_⟩
                refine ⟨_,  hc 1 _ rfl, ?_⟩
                refine ⟨⟨by omega, by omega⟩, ?_⟩
                obtain ⟨_, ha, hc⟩ := (h.no hM.U).atk recII_len (by decide) hi
                cases ha
                refine ⟨_, rfl, ?_⟩
                refine ⟨_,  hc 1 _ rfl, ?_⟩
                obtain ⟨_, hA, hT⟩ := hM.left
                refine ⟨(qdrop_ok hA _).mono ?_⟩
                rintro e w2 ⟨rfl, hU⟩
                replace hM := hT _ _ hU
                clear hA hT hU
                refine ⟨_, rfl, ?_⟩
                obtain ⟨_, ha, hc⟩ := (h.no hM.U).atk recII_len (by decide) hi
                cases ha
                refine ⟨hc 1 _ rfl, ?_⟩
                obtain ⟨_, hA, hT⟩ := hM.right
                refine ⟨(rdrop_ok hA hl1 hl2 hn _).mono ?_⟩
                rintro e w2 ⟨rfl, _, hU⟩
                replace hM := hT _ _ hU
                clear hA hT hU
                refine ⟨_, rfl, ?_⟩
                refine ⟨fun g9 => ?_, fun g9 => ?_⟩
                · simp at g9
                · have hx := hM.left.choose_spec.1
                  refine r5_3 hM hx.len.1 hx.len.2.1 (by first | exact hcap | (rw [show (dropS x l[i].2).1 = x.1 from drop_cap ..]; exact hcap)) fun w4 hM => ?_
                  exact ⟨(i + 1, (dropS x l[i].2)), ⟨rfl, rfl, rfl, rfl, rfl, by rw [w64 (by omega)]; rfl, trivial⟩, ⟨by simp only; omega, by simp only; omega, (drop_cap ..).trans hcap0, _, hM⟩, by simp only; omega⟩
              · obtain ⟨_, hA, hT⟩ := hM.left
                refine ⟨(qturn_ok hA).mono ?_⟩
                rintro e w2 ⟨rfl, hU⟩
                replace hM := hT _ _ hU
                clear hA hT hU
                refine ⟨_, rfl, ?_⟩
                obtain ⟨_, hA, hT⟩ := hM.right
                refine ⟨(rturn_ok hA hl1 hl2 hn).mono ?_⟩
                rintro e w2 ⟨rfl, _, hU⟩
                replace hM := hT _ _ hU
                clear hA hT hU
                refine ⟨_, rfl, ?_⟩
                refine ⟨fun g10 => ?_, fun g10 => ?_⟩
                · simp at g10
                · have hx := hM.left.choose_spec.1
                  refine r5_3 hM hx.len.1 hx.len.2.1 (by first | exact hcap | (rw [show (turnS x).1 = x.1 from turn_cap ..]; exact hcap)) fun w4 hM => ?_
                  exact ⟨(i + 1, (turnS x)), ⟨rfl, rfl, rfl, rfl, rfl, by rw [w64 (by omega)]; rfl, trivial⟩, ⟨by simp only; omega, by simp only; omega, (turn_cap ..).trans hcap0, _, hM⟩, by simp only; omega⟩
        · exact hgo
      · exact hgo

/-! ### FifoOrder, FifoRound -/

theorem push_small {q : List Int} {n : Int} (h : q.length ≤ 500) : pushS (1024, q) n = if n ∈ q then (1024, q) else (1024, q ++ [n]) := by
  unfold pushS pushE
  by_cases hm : n ∈ q
  · simp [hm]
  · have : q.length ≠ 1024 := by omega
    simp [hm, this]
theorem pushE_small {q : List Int} {n : Int} (h : q.length ≤ 500) : pushE (1024, q) n = if n ∈ q then 6 else 0 := by
  unfold pushE
  by_cases hm : n ∈ q
  · simp [hm]
  · have : q.length ≠ 1024 := by omega
    simp [hm, this]

theorem fifoOrder_ok {W : World} {p : Option Addr} {l : List Int} {c : Nat} (_ : ∀ x ∈ l, (Lit.int .i64 x).wf = true) (h : Cells W p (l.map (Value.int .i64))) (_ : l.length ≤ maxLen) :
    Calls Try.prog 3 #[.slice p l.length c] W fun e w' => e = .returned (.bool true) ∧ Upd no W w' := by
  refine u3 ?_
  rw [t3]
  refine ⟨(new_ok 1024 W).mono ?_⟩
  rintro e w1 hh
  obtain ⟨_, b1, F1, rfl, hQ, hU, hF⟩ := hh.resolve_left (fun h => absurd (by omega) h.1)
  have hM : Mine W w1 (FqO b1) (1024, []) := Mine.new (Upd.refl _ _) hU hQ hF
  refine ⟨_, _, rfl, fun _ => ⟨fun _ => ⟨fun _ => ?_, fun g => by simp at g⟩, fun g0 => ?_⟩, fun g => by simp at g⟩
  · refine ⟨(known_ok _).mono ?_⟩
    rintro e w9 ⟨rfl, hU9⟩
    exact ⟨_, rfl, rfl, hM.U.and hU9⟩
  · have hl5 : l.length ≤ 500 := by simp at g0; omega
    replace hM : Mine W w1 (Star (FqO b1) (Ls 3)) ((1024, []), (none, 0, [])) := hM.add (Upd.refl _ _) (Ls.nil _ _) (fun _ h => h.elim)
    refine ⟨WP_loop okProg (M := M3) (σ := Nat × Option Addr × Nat × List Int) (fun x => e3_2 p l.length c (some ⟨b1, 0, none⟩) x.2.1 x.2.2.2.length x.2.2.1 (x.1 : Int))
      (fun x w => x.1 ≤ l.length ∧ x.2.2.2.length ≤ x.1 ∧ Mine W w (Star (FqO b1) (Ls 3)) ((1024, x.2.2.2), x.2)) (fun x _ => l.length - x.1) (0, none, 0, []) ⟨rfl, rfl, rfl, rfl, trivial⟩ ⟨by simp, by simp, hM⟩ ?_⟩
    clear hM hU hQ hF
    rintro ⟨i, wp, wc, q⟩ w ⟨h1, h2, hM⟩
    simp only at h1 h2 hM ⊢
    rw [t3_2]
    refine ⟨fun g1 => ?_, fun g1 => CutD.mk ?_⟩
    · have hi : i < l.length := by simpa using g1
      obtain ⟨a, rfl, hc⟩ := (h.no hM.U).at1 hi
      refine ⟨⟨by omega, by omega⟩, a, rfl, _, hc, ?_⟩
      obtain ⟨_, hA, hT⟩ := hM.left
      refine ⟨(qpush_ok hA _).mono ?_⟩
      rintro e w2 ⟨rfl, hU⟩
      replace hM := hT _ _ hU
      clear hA hT hU
      simp only at hM
      rw [push_small (by omega)] at hM
      rw [pushE_small (by omega)]
      refine ⟨_, rfl, fun g2 => ?_, fun g2 => ?_⟩
      · have g2 : l[i] ∉ q := fun hm => by simp [hm] at g2
        rw [if_neg g2] at hM
        obtain ⟨a', ha', hc⟩ := (h.no hM.U).at1 hi
        cases ha'
        refine ⟨⟨by omega, by omega⟩, _, rfl, _, hc, ⟨fun w3 hN => ?_⟩⟩
        obtain ⟨_, hA, hT⟩ := hM.right
        obtain ⟨p', c', w4, hr, hU⟩ := Ls.push elI hA (by omega) hN 22
        replace hM := hT _ _ hU
        exact ⟨p', _, c', w4, hr, (i + 1, p', c', q ++ [l[i]]), ⟨rfl, rfl, rfl, by rw [w64 (by omega)]; rfl, trivial⟩, ⟨by simp only; omega, by simp; omega, hM⟩, by simp only; omega⟩
      · have g2 : l[i] ∈ q := Decidable.byContradiction fun hm => by simp [hm] at g2
        rw [if_pos g2] at hM
        exact ⟨(i + 1, wp, wc, q), ⟨rfl, rfl, rfl, by rw [w64 (by omega)]; rfl, trivial⟩, ⟨by simp only; omega, by simp only; omega, hM⟩, by simp only; omega⟩
    · rw [t3_0]
      refine ⟨WP_loop okProg (M := M3) (σ := Nat) (fun k => e3_3 (some ⟨b1, 0, none⟩) wp q.length wc (k : Int)) (fun k w => k ≤ q.length ∧ Mine W w (Star (FqO b1) (Ls 3)) ((1024, q.drop k), (wp, wc, q))) (fun k _ => q.length - k) 0 ⟨rfl, rfl, rfl, trivial⟩ ⟨by omega, hM⟩ ?_⟩
      clear hM
      rintro k w ⟨hk, hM⟩
      rw [t3_3]
      refine ⟨fun g1 => ?_, fun g1 => CutD.mk ?_⟩
      · have hk' : k < q.length := by simpa using g1
        have hd : q.drop k = q[k] :: q.drop (k + 1) := List.drop_eq_getElem_cons hk'
        obtain ⟨_, hA, hT⟩ := hM.left
        refine ⟨(qpop_ok hA).mono ?_⟩
        rintro e w2 ⟨rfl, hU⟩
        replace hM := hT _ _ hU
        clear hA hT hU
        simp only [hd] at hM
        obtain ⟨a, ha, hc⟩ := (hM.right.choose_spec.1.2.cells).at1 hk'
        simp only at ha
        rw [hd]
        exact ⟨_, _, rfl, ⟨by omega, by omega⟩, a, ha, _, hc, fun _ => ⟨fun g => by simp [frontE] at g, fun _ => ⟨k + 1, ⟨rfl, rfl, by rw [w64 (by omega)]; rfl, trivial⟩, ⟨by omega, hM⟩, by omega⟩⟩, fun g => by simp [frontE] at g⟩
      · have hk' : k = q.length := by simp at g1; omega
        subst hk'
        rw [t3_1]
        obtain ⟨_, hA, hT⟩ := hM.left
        refine ⟨(qpop_ok hA).mono ?_⟩
        rintro e w2 ⟨rfl, hU⟩
        replace hM := hT _ _ hU
        clear hA hT hU
        simp only [List.drop_length] at hM ⊢
        refine ⟨_, _, rfl, fun _ => ?_, fun g => by simp [frontE] at g⟩
        refine ⟨(known_ok _).mono ?_⟩
        rintro e w9 ⟨rfl, hU9⟩
        exact ⟨_, rfl, rfl, hM.U.and hU9⟩

theorem fifoRound_ok {W : World} {p : Option Addr} {l : List Int} {c : Nat} (_ : ∀ x ∈ l, (Lit.int .i64 x).wf = true) (h : Cells W p (l.map (Value.int .i64))) (_ : l.length ≤ maxLen) :
    Calls Try.prog 4 #[.slice p l.length c] W fun e w' => e = .returned (.bool true) ∧ Upd no W w' := by
  refine u4 ?_
  rw [t4]
  refine ⟨(new_ok 1024 W).mono ?_⟩
  rintro e w1 hh
  obtain ⟨_, b1, F1, rfl, hQ, hU, hF⟩ := hh.resolve_left (fun h => absurd (by omega) h.1)
  have hM : Mine W w1 (FqO b1) (1024, []) := Mine.new (Upd.refl _ _) hU hQ hF
  refine ⟨_, _, rfl, fun _ => ⟨fun _ => ⟨fun _ => ?_, fun g => by simp at g⟩, fun g0 => ?_⟩, fun g => by simp at g⟩
  · refine ⟨(known_ok _).mono ?_⟩
    rintro e w9 ⟨rfl, hU9⟩
    exact ⟨_, rfl, rfl, hM.U.and hU9⟩
  · have hl5 : l.length ≤ 300 := by simp at g0; omega
    refine ⟨WP_loop okProg (M := M4) (σ := Nat × List Int) (fun x => e4_2 p l.length c (some ⟨b1, 0, none⟩) (x.1 : Int))
      (fun x w => x.1 ≤ l.length ∧ x.2.length ≤ x.1 ∧ Mine W w (FqO b1) (1024, x.2)) (fun x _ => l.length - x.1) (0, []) ⟨rfl, rfl, rfl, trivial⟩ ⟨by simp, by simp, hM⟩ ?_⟩
    clear hM hU hQ hF
    rintro ⟨i, q⟩ w ⟨h1, h2, hM⟩
    simp only at h1 h2 hM ⊢
    rw [t4_2]
    refine ⟨fun g1 => ?_, fun g1 => CutD.mk ?_⟩
    · have hi : i < l.length := by simpa using g1
      obtain ⟨a, rfl, hc⟩ := (h.no hM.U).at1 hi
      refine ⟨⟨by omega, by omega⟩, a, rfl, _, hc, ?_⟩
      obtain ⟨_, hA, hT⟩ := hM.turn
      refine ⟨(qpush_ok hA _).mono ?_⟩
      rintro e w2 ⟨rfl, hU⟩
      replace hM := hT _ _ hU
      clear hA hT hU
      rw [push_small (by omega)] at hM
      refine ⟨_, rfl, ?_⟩
      by_cases g2 : l[i] ∈ q
      · rw [if_pos g2] at hM
        exact ⟨(i + 1, q), ⟨rfl, rfl, by rw [w64 (by omega)]; rfl, trivial⟩, ⟨by simp only; omega, by simp only; omega, hM⟩, by simp only; omega⟩
      · rw [if_neg g2] at hM
        exact ⟨(i + 1, q ++ [l[i]]), ⟨rfl, rfl, by rw [w64 (by omega)]; rfl, trivial⟩, ⟨by simp only; omega, by simp; omega, hM⟩, by simp only; omega⟩
    · rw [t4_0]
      obtain ⟨_, hA, hT⟩ := hM.turn
      refine ⟨(qlistL_ok hA).mono ?_⟩
      rintro e w2 ⟨p', c', rfl, hL⟩
      replace hM : Mine W w2 (Star (FqO b1) (Ls 3)) ((1024, q), (p', c', q)) := hM.add hL.U ⟨fun _ => Iff.rfl, hL.S⟩ hL.F
      clear hA hT hL
      refine ⟨_, _, _, rfl, ⟨WP_loop okProg (M := M4) (σ := Nat) (fun k => e4_3 (some ⟨b1, 0, none⟩) p' q.length c' (k : Int)) (fun k w => k ≤ q.length ∧ Mine W w (Star (FqO b1) (Ls 3)) ((1024, q.drop k ++ q.take k), (p', c', q))) (fun k _ => q.length - k) 0 ⟨rfl, rfl, rfl, trivial⟩ ⟨by omega, by simpa using hM⟩ ?_⟩⟩
      clear hM
      rintro k w ⟨hk, hM⟩
      rw [t4_3]
      refine ⟨fun g1 => ?_, fun g1 => CutD.mk ?_⟩
      · have hk' : k < q.length := by simpa using g1
        have hd : q.drop k ++ q.take k = q[k] :: (q.drop (k + 1) ++ q.take k) := by rw [List.drop_eq_getElem_cons hk']; rfl
        have hs : turnS (1024, q.drop k ++ q.take k) = (1024, q.drop (k + 1) ++ q.take (k + 1)) := by
          rw [hd, turnS, List.take_succ_eq_append_getElem hk']
          simp
        have he : turnE (1024, q.drop k ++ q.take k) = 0 := by rw [hd]; rfl
        obtain ⟨_, hA, hT⟩ := hM.left
        refine ⟨(qturn_ok hA).mono ?_⟩
        rintro e w2 ⟨rfl, hU⟩
        replace hM := hT _ _ hU
        clear hA hT hU
        simp only [hs] at hM
        simp only [he]
        exact ⟨_, rfl, fun g => by simp at g, fun _ => ⟨k + 1, ⟨rfl, rfl, by rw [w64 (by omega)]; rfl, trivial⟩, ⟨by omega, hM⟩, by omega⟩⟩
      · have hk' : k = q.length := by simp at g1; omega
        subst hk'
        simp only [List.drop_length, List.take_length, List.nil_append] at hM
        rw [t4_1]
        obtain ⟨_, hA, hT⟩ := hM.left
        refine ⟨(qlist_ok hA).mono ?_⟩
        rintro e w2 ⟨p2, c2, rfl, hC, hU⟩
        replace hM := hM.upd hU
        clear hA hT hU
        refine ⟨_, _, _, rfl, ⟨(ints_ok hC hM.right.choose_spec.1.2.cells (by simp only; omega)).mono ?_⟩⟩
        rintro e w3 ⟨rfl, hU⟩
        replace hM := hM.upd hU
        refine ⟨_, rfl, fun _ => ?_, fun g => by simp at g⟩
        refine ⟨(known_ok _).mono ?_⟩
        rintro e w9 ⟨rfl, hU9⟩
        exact ⟨_, rfl, rfl, hM.U.and hU9⟩
end Go.Dav
