/- The statements on queues by priorities: what their functions come to. -/
import Derived.Test.YtejkpmndkpmjgaaRPrio09
import Derived.Test.YtejkpmndkpmjgaaPqNil09
set_option linter.unusedSimpArgs false
set_option linter.unusedVariables false
namespace Go.Dav
open Go.Proofs

theorem listqC_ok {w : World} {F : Fp} {q : Nat} {x : Nat × Its} (h : PqO q w F x) : Calls Try.prog 9 #[.pointer (some ⟨q, 0, none⟩)] w fun e w' => ∃ p c, e = .returned (.slice p (listOf x.2).length c) ∧ Cells w' p ((listOf x.2).map (Value.int .i64)) ∧ Upd no w w' :=
  (listq_ok h).mono fun _ _ ⟨p, c, he, hL⟩ => ⟨p, c, he, hL.S.cells, hL.U⟩
theorem rpListC_ok {w : World} {F : Fp} {b : Nat} {x : Nat × Its} (h : RpO b w F x) (hl : x.2.length ≤ 1024) : Calls Try.prog 20 #[.pointer (some ⟨b, 0, none⟩)] w fun e w' => ∃ p c, e = .returned (.slice p (listOf x.2).length c) ∧ Cells w' p ((listOf x.2).map (Value.int .i64)) ∧ Upd no w w' :=
  (rpList_ok h hl).mono fun _ _ ⟨p, c, he, hL⟩ => ⟨p, c, he, hL.S.cells, hL.U⟩
theorem listOf_len (L : Its) : (listOf L).length ≤ 8 * L.length := lO_len L 8

theorem known_ok (w : World) : Calls Try.prog 11 #[] w fun e w' => e = .returned (.bool true) ∧ Upd no w w' := by
  refine u11 ?_
  rw [t11]
  refine ⟨(pnew_ok _ _).mono ?_⟩
  rintro e w2 hh
  obtain ⟨_, b1, F1, rfl, hQ, hU, hF⟩ := hh.resolve_left (fun h => absurd (by unfold okP9; decide) h.1)
  have hM : Mine w w2 (PqO b1) (9, []) := Mine.new (Upd.refl _ _) hU hQ hF
  clear hU hQ hF
  refine ⟨_, _, rfl, ?_⟩
  refine ⟨fun g1 => ?_, fun g1 => ?_⟩
  · refine ⟨fun g2 => ?_, fun g2 => ?_⟩
    · first | exact absurd g2 (by decide +kernel) | (simp at g2; done)
    · obtain ⟨_, hA, hT⟩ := hM.turn
      refine ⟨(ppush_ok hA _ _).mono ?_⟩
      rintro e w2 ⟨rfl, hU⟩
      replace hM := hT _ _ hU
      clear hA hT hU
      refine ⟨_, rfl, ?_⟩
      obtain ⟨_, hA, hT⟩ := hM.turn
      refine ⟨(ppush_ok hA _ _).mono ?_⟩
      rintro e w2 ⟨rfl, hU⟩
      replace hM := hT _ _ hU
      clear hA hT hU
      refine ⟨_, rfl, ?_⟩
      obtain ⟨_, hA, hT⟩ := hM.turn
      refine ⟨(ppush_ok hA _ _).mono ?_⟩
      rintro e w2 ⟨rfl, hU⟩
      replace hM := hT _ _ hU
      clear hA hT hU
      refine ⟨_, rfl, ?_⟩
      obtain ⟨_, hA, hT⟩ := hM.turn
      refine ⟨(pturn_ok hA).mono ?_⟩
      rintro e w2 ⟨rfl, hU⟩
      replace hM := hT _ _ hU
      clear hA hT hU
      refine ⟨_, rfl, ?_⟩
      obtain ⟨_, hA, hT⟩ := hM.turn
      refine ⟨(topq_ok hA).mono ?_⟩
      rintro e w2 ⟨rfl, hU⟩
      replace hM := hM.upd hU
      clear hA hT hU
      refine ⟨_, _, rfl, ?_⟩
      refine ⟨fun g3 => ?_, fun g3 => ?_⟩
      · refine ⟨fun g4 => ?_, fun g4 => ?_⟩
        · refine ⟨fun g5 => ?_, fun g5 => ?_⟩
          · obtain ⟨_, hA, hT⟩ := hM.turn
            refine ⟨(listqC_ok hA).mono ?_⟩
            rintro e w2 ⟨_, _, rfl, hC, hU⟩
            replace hM := hM.upd hU
            clear hA hT hU
            refine ⟨_, _, _, rfl, ?_⟩
            refine ⟨fun w2 hN => ?_⟩
            have hC2 := (Sl.new (T := 3) (n := 3) (sz := 1) (cs := ([7, 6, 5] : List Int).map (Value.int .i64)) hN (by simp) (by decide)).cells
            replace hM := hM.upd (hN.upd no)
            replace hC := hC.no (hN.upd no)
            refine ⟨(ints_ok hC hC2 (by decide +kernel)).mono ?_⟩
            rintro e w2 ⟨rfl, hU⟩
            replace hM := hM.upd hU
            clear hU
            refine ⟨_, rfl, ?_⟩
            refine ⟨fun g6 => ?_, fun g6 => ?_⟩
            · obtain ⟨_, hA, hT⟩ := hM.turn
              refine ⟨(plen_ok hA).mono ?_⟩
              rintro e w2 ⟨rfl, rfl⟩
              clear hA hT
              refine ⟨_, rfl, ?_⟩
              exact ⟨congrArg (fun b => Ending.returned (Value.bool b)) (by decide +kernel), hM.U⟩
            · first | exact absurd g6 (by decide +kernel) | (simp at g6; done)
          · first | exact absurd g5 (by decide +kernel) | (simp at g5; done)
        · first | exact absurd g4 (by decide +kernel) | (simp at g4; done)
      · first | exact absurd g3 (by decide +kernel) | (simp at g3; done)
  · first | exact absurd g1 (by decide +kernel) | (simp at g1; done)

theorem prioNil_ok {W : World} {p n : Int} (_ : (Lit.int .i64 p).wf = true) (_ : (Lit.int .i64 n).wf = true) : Calls Try.prog 6 #[.int .i64 p, .int .i64 n] W fun e w' => e = .returned (.bool true) ∧ Upd no W w' := by
  refine u6 ?_
  rw [t6]
  have hW : Upd no W W := Upd.refl _ _
  refine ⟨(pqTopNil_ok _).mono ?_⟩
  rintro e w2 ⟨rfl, hU⟩
  replace hW := hW.and hU
  clear hU
  refine ⟨_, _, rfl, ?_⟩
  refine ⟨(pqPrioNil_ok _ _).mono ?_⟩
  rintro e w2 ⟨rfl, hU⟩
  replace hW := hW.and hU
  clear hU
  refine ⟨_, _, rfl, ?_⟩
  refine ⟨(pqPushNil_ok _ _ _).mono ?_⟩
  rintro e w2 ⟨rfl, hU⟩
  replace hW := hW.and hU
  clear hU
  refine ⟨_, rfl, ?_⟩
  refine ⟨fun g1 => ?_, fun g1 => ?_⟩
  · refine ⟨fun g2 => ?_, fun g2 => ?_⟩
    · refine ⟨(pqTurnNil_ok _).mono ?_⟩
      rintro e w2 ⟨rfl, hU⟩
      replace hW := hW.and hU
      clear hU
      refine ⟨_, rfl, ?_⟩
      refine ⟨fun g3 => ?_, fun g3 => ?_⟩
      · refine ⟨(pqBackNil_ok _ _).mono ?_⟩
        rintro e w2 ⟨rfl, hU⟩
        replace hW := hW.and hU
        clear hU
        refine ⟨_, rfl, ?_⟩
        refine ⟨fun g4 => ?_, fun g4 => ?_⟩
        · refine ⟨(pqDropNil_ok _ _).mono ?_⟩
          rintro e w2 ⟨rfl, hU⟩
          replace hW := hW.and hU
          clear hU
          refine ⟨_, rfl, ?_⟩
          refine ⟨fun g5 => ?_, fun g5 => ?_⟩
          · refine ⟨fun g6 => ?_, fun g6 => ?_⟩
            · refine ⟨(pqLenNil_ok _).mono ?_⟩
              rintro e w2 ⟨rfl, hU⟩
              replace hW := hW.and hU
              clear hU
              refine ⟨_, rfl, ?_⟩
              refine ⟨fun g7 => ?_, fun g7 => ?_⟩
              · refine ⟨(Try.list_nil _).mono ?_⟩
                rintro e w2 ⟨rfl, hU⟩
                replace hW := hW.and hU
                clear hU
                refine ⟨_, _, _, rfl, ?_⟩
                refine ⟨fun g8 => ?_, fun g8 => ?_⟩
                · refine ⟨(known_ok _).mono ?_⟩
                  rintro e w2 ⟨rfl, hU⟩
                  replace hW := hW.and hU
                  clear hU
                  refine ⟨_, rfl, ?_⟩
                  exact ⟨rfl, hW⟩
                · exact absurd g8 (by decide)
              · exact absurd g7 (by decide)
            · exact absurd g6 (by decide)
          · exact absurd g5 (by decide)
        · exact absurd g4 (by decide)
      · exact absurd g3 (by decide)
    · exact absurd g2 (by decide)
  · exact absurd g1 (by decide)

/-- What an act makes of a queue. -/
def actS (x : Nat × Its) (a : Int × Int × Int) : Nat × Its :=
  if Int.tmod a.1 4 = 0 then pqPushS x a.2.1 a.2.2 else if Int.tmod a.1 4 = 1 then pqTurnS x else if Int.tmod a.1 4 = 2 then pqBackS x a.2.2 else if inE x a.2.2 then pqDropS x a.2.2 else x
theorem do_ok {W w : World} {b1 b2 : Nat} {x : Nat × Its} (hM : Mine W w (Star (PqO b1) (RpO b2)) (x, x)) (a : Int × Int × Int) :
    Calls Try.prog 16 #[.pointer (some ⟨b1, 0, none⟩), .pointer (some ⟨b2, 0, none⟩), .agg #[.int .i64 a.1, .int .i64 a.2.1, .int .i64 a.2.2]] w fun e w' => e = .returned (.bool true) ∧ Mine W w' (Star (PqO b1) (RpO b2)) (actS x a, actS x a) := by
  refine u16 ?_
  rw [t16]
  have hV : PqV x := by obtain ⟨_, hA, _⟩ := hM.left; exact hA.V
  have hl := hV.len
  have hn := hV.one
  refine ⟨fun w2 hN => ?_⟩
  replace hM : Mine W w2 (Star (Star (PqO b1) (RpO b2)) (Rw w.heap.size 29 recIII)) ((x, x), a) := hM.add (hN.upd no) (Rw.new (enc := recIII) (s := a) hN rfl) (fun _ h => Nat.le_of_eq h.symm)
  generalize w.heap.size = b3 at hM ⊢
  refine ⟨_,  (atBlk hM.right).cell rfl, ?_⟩
  refine ⟨by decide, ?_⟩
  refine ⟨fun g1 => ?_, fun g1 => ?_⟩
  · intro w1 q1 q2 q3 q4
    replace hM := hM.upd (Upd.same no q1 q2 q3 q4)
    refine ⟨_,  (atBlk hM.right).cell rfl, ?_⟩
    refine ⟨_,  (atBlk hM.right).cell rfl, ?_⟩
    refine ⟨_,  (atBlk hM.right).cell rfl, ?_⟩
    refine ⟨_,  (atBlk hM.right).cell rfl, ?_⟩
    obtain ⟨_, hA, hT⟩ := hM.ll
    refine ⟨(ppush_ok hA _ _).mono ?_⟩
    rintro e w2 ⟨rfl, hU⟩
    replace hM := hT _ _ hU
    clear hA hT hU
    refine ⟨_, rfl, ?_⟩
    refine ⟨(atBlk hM.right).cell rfl, ?_⟩
    refine ⟨(atBlk hM.right).cell rfl, ?_⟩
    obtain ⟨_, hA, hT⟩ := hM.lr
    refine ⟨(rpPush_ok hA hl _ _).mono ?_⟩
    rintro e w2 ⟨rfl, hU⟩
    replace hM := hT _ _ hU
    clear hA hT hU
    refine ⟨_, rfl, ?_⟩
    refine ⟨congrArg (fun b => Ending.returned (Value.bool b)) (beq_self_eq_true _), ?_⟩
    have hD := hM.drop
    first | (rw [actS, if_pos (eq_of_beq g1)]; exact hD) | (rw [actS, if_neg (ne_of_beq_false g1), if_pos (eq_of_beq g2)]; exact hD) | (rw [actS, if_neg (ne_of_beq_false g1), if_neg (ne_of_beq_false g2), if_pos (eq_of_beq g3)]; exact hD) | (rw [actS, if_neg (ne_of_beq_false g1), if_neg (ne_of_beq_false g2), if_neg (ne_of_beq_false g3)]; exact hD)
  · refine ⟨fun g2 => ?_, fun g2 => ?_⟩
    · obtain ⟨_, hA, hT⟩ := hM.ll
      refine ⟨(pturn_ok hA).mono ?_⟩
      rintro e w2 ⟨rfl, hU⟩
      replace hM := hT _ _ hU
      clear hA hT hU
      refine ⟨_, rfl, ?_⟩
      obtain ⟨_, hA, hT⟩ := hM.lr
      refine ⟨(rpTurn_ok hA hl hn).mono ?_⟩
      rintro e w2 ⟨rfl, hU⟩
      replace hM := hT _ _ hU
      clear hA hT hU
      refine ⟨_, rfl, ?_⟩
      refine ⟨congrArg (fun b => Ending.returned (Value.bool b)) (beq_self_eq_true _), ?_⟩
      have hD := hM.drop
      first | (rw [actS, if_pos (eq_of_beq g1)]; exact hD) | (rw [actS, if_neg (ne_of_beq_false g1), if_pos (eq_of_beq g2)]; exact hD) | (rw [actS, if_neg (ne_of_beq_false g1), if_neg (ne_of_beq_false g2), if_pos (eq_of_beq g3)]; exact hD) | (rw [actS, if_neg (ne_of_beq_false g1), if_neg (ne_of_beq_false g2), if_neg (ne_of_beq_false g3)]; exact hD)
    · refine ⟨fun g3 => ?_, fun g3 => ?_⟩
      · intro w1 q1 q2 q3 q4
        replace hM := hM.upd (Upd.same no q1 q2 q3 q4)
        refine ⟨_,  (atBlk hM.right).cell rfl, ?_⟩
        refine ⟨_,  (atBlk hM.right).cell rfl, ?_⟩
        obtain ⟨_, hA, hT⟩ := hM.ll
        refine ⟨(pback_ok hA _).mono ?_⟩
        rintro e w2 ⟨rfl, hU⟩
        replace hM := hT _ _ hU
        clear hA hT hU
        refine ⟨_, rfl, ?_⟩
        refine ⟨(atBlk hM.right).cell rfl, ?_⟩
        obtain ⟨_, hA, hT⟩ := hM.lr
        refine ⟨(rpBack_ok hA hl hn _).mono ?_⟩
        rintro e w2 ⟨rfl, hU⟩
        replace hM := hT _ _ hU
        clear hA hT hU
        refine ⟨_, rfl, ?_⟩
        refine ⟨congrArg (fun b => Ending.returned (Value.bool b)) (beq_self_eq_true _), ?_⟩
        have hD := hM.drop
        first | (rw [actS, if_pos (eq_of_beq g1)]; exact hD) | (rw [actS, if_neg (ne_of_beq_false g1), if_pos (eq_of_beq g2)]; exact hD) | (rw [actS, if_neg (ne_of_beq_false g1), if_neg (ne_of_beq_false g2), if_pos (eq_of_beq g3)]; exact hD) | (rw [actS, if_neg (ne_of_beq_false g1), if_neg (ne_of_beq_false g2), if_neg (ne_of_beq_false g3)]; exact hD)
      · intro w1 q1 q2 q3 q4
        replace hM := hM.upd (Upd.same no q1 q2 q3 q4)
        refine ⟨_,  (atBlk hM.right).cell rfl, ?_⟩
        refine ⟨_,  (atBlk hM.right).cell rfl, ?_⟩
        obtain ⟨_, hA, hT⟩ := hM.ll
        refine ⟨(pdrop_ok hA _).mono ?_⟩
        rintro e w2 ⟨rfl, hU⟩
        replace hM := hT _ _ hU
        clear hA hT hU
        refine ⟨_, rfl, ?_⟩
        refine ⟨(atBlk hM.right).cell rfl, ?_⟩
        obtain ⟨_, hA, hT⟩ := hM.lr
        refine ⟨(rpDrop_ok hA hl hn _).mono ?_⟩
        rintro e w2 ⟨rfl, hU⟩
        replace hM := hT _ _ hU
        clear hA hT hU
        refine ⟨_, rfl, ?_⟩
        refine ⟨congrArg (fun b => Ending.returned (Value.bool b)) (beq_self_eq_true _), ?_⟩
        have hD := hM.drop
        first | (rw [actS, if_pos (eq_of_beq g1)]; exact hD) | (rw [actS, if_neg (ne_of_beq_false g1), if_pos (eq_of_beq g2)]; exact hD) | (rw [actS, if_neg (ne_of_beq_false g1), if_neg (ne_of_beq_false g2), if_pos (eq_of_beq g3)]; exact hD) | (rw [actS, if_neg (ne_of_beq_false g1), if_neg (ne_of_beq_false g2), if_neg (ne_of_beq_false g3)]; exact hD)

theorem prioPlays_ok {W : World} {most : Int} {p : Option Addr} {l : List (Int × Int × Int)} {c : Nat} (_ : (Lit.int .i64 most).wf = true) (_ : ∀ x ∈ l, okIII x) (h : Cells W p (l.flatMap recIII)) (_ : l.length ≤ maxLen) :
    Calls Try.prog 4 #[.int .i64 most, .slice p l.length c] W fun e w' => e = .returned (.bool true) ∧ Upd no W w' := by
  refine u4 ?_
  rw [t4]
  refine ⟨(pnew_ok most W).mono ?_⟩
  rintro e w1 (⟨hno, rfl, hU⟩ | ⟨hyes, b1, F1, rfl, hQ, hU, hF⟩)
  · refine ⟨_, _, rfl, ⟨(rpNew_ok most w1).mono ?_⟩⟩
    rintro e w2 (⟨_, rfl, rfl⟩ | ⟨h, _⟩)
    · refine ⟨_, _, rfl, fun _ => ⟨fun g => by simp at g, fun _ => ⟨fun _ => ⟨(known_ok _).mono ?_⟩, fun g => by simp at g⟩⟩, fun g => by simp at g⟩
      rintro e w3 ⟨rfl, hU3⟩
      exact ⟨_, rfl, rfl, hU.and hU3⟩
    · exact absurd h hno
  · have hM : Mine W w1 (PqO b1) (most.toNat, []) := Mine.new (Upd.refl _ _) hU hQ hF
    refine ⟨_, _, rfl, ⟨(rpNew_ok most w1).mono ?_⟩⟩
    rintro e w2 (⟨h, _⟩ | ⟨_, b2, F2, rfl, hQ2, hU2, hF2⟩)
    · exact absurd hyes h
    · replace hM : Mine W w2 (Star (PqO b1) (RpO b2)) ((most.toNat, []), (most.toNat, [])) := hM.add hU2 hQ2 hF2
      clear hU hQ hF hU2 hQ2 hF2
      refine ⟨_, _, rfl, fun _ => ⟨fun g => by simp at g, fun _ => ⟨fun g => by simp at g, fun _ => ?_⟩⟩, fun g => by simp at g⟩
      refine ⟨WP_loop okProg (M := M4) (σ := Nat × (Nat × Its)) (fun x => e4_1 p l.length c (some ⟨b1, 0, none⟩) (some ⟨b2, 0, none⟩) (x.1 : Int))
        (fun x w => x.1 ≤ l.length ∧ Mine W w (Star (PqO b1) (RpO b2)) (x.2, x.2)) (fun x _ => l.length - x.1) (0, (most.toNat, [])) ⟨rfl, rfl, rfl, rfl, trivial⟩ ⟨by simp, hM⟩ ?_⟩
      clear hM
      rintro ⟨i, x⟩ w ⟨h1, hM⟩
      simp only at h1 hM ⊢
      have hgo : ∀ w, Upd no W w → CutD Try.prog M4 c4_0 e4_0 w (k4_0 fun e w' => e = .returned (.bool true) ∧ Upd no W w') := by
        intro w hU
        refine CutD.mk ?_
        rw [t4_0]
        refine ⟨(known_ok w).mono ?_⟩
        rintro e w' ⟨rfl, hU2⟩
        exact ⟨_, rfl, rfl, hU.and hU2⟩
      rw [t4_1]
      refine ⟨fun g1 => ⟨fun g2 => ?_, fun g2 => hgo _ hM.U⟩, fun g1 => hgo _ hM.U⟩
      have hi : i < l.length := by simpa using g1
      have hi2 : i < 150 := by simp at g2; omega
      obtain ⟨a, rfl, hc⟩ := (h.no hM.U).atk recIII_len (by decide) hi
      refine ⟨⟨by omega, by omega⟩, a, rfl, _, hc 0 _ rfl, _, hc 1 _ rfl, _, hc 2 _ rfl, ⟨(do_ok hM l[i]).mono ?_⟩⟩
      rintro e w2 ⟨rfl, hM2⟩
      clear hM hc
      have hV : PqV (actS x l[i]) := by obtain ⟨_, hA, _⟩ := hM2.left; exact hA.V
      generalize actS x l[i] = x at hM2 hV ⊢
      have hl := hV.len
      refine ⟨_, rfl, fun g => by simp at g, fun _ => ?_⟩
      obtain ⟨_, hA, _⟩ := hM2.left
      refine ⟨(topq_ok hA).mono ?_⟩
      clear hA
      rintro e w3 ⟨rfl, hU⟩
      have hM := hM2.upd hU
      clear hM2 hU
      obtain ⟨_, hA, _⟩ := hM.right
      refine ⟨_, _, rfl, ⟨(rpTop_ok hA hl).mono ?_⟩⟩
      clear hA
      rintro e w4 ⟨rfl, hU⟩
      replace hM := hM.upd hU
      clear hU
      obtain ⟨a', ha', hc⟩ := (h.no hM.U).atk recIII_len (by decide) hi
      cases ha'
      obtain ⟨_, hA, _⟩ := hM.left
      refine ⟨_, _, rfl, ⟨by omega, by omega⟩, a, rfl, _, hc 2 _ rfl, ⟨(prio_ok hA _).mono ?_⟩⟩
      clear hA
      rintro e w5 ⟨rfl, rfl⟩
      obtain ⟨_, hA, _⟩ := hM.right
      refine ⟨_, _, rfl, ⟨by omega, by omega⟩, a, rfl, _, hc 2 _ rfl, ⟨(rpPrio_ok hA hl _).mono ?_⟩⟩
      clear hA
      rintro e w6 ⟨rfl, rfl⟩
      refine ⟨_, _, rfl, ?_⟩
      intro w7 q1 q2 q3 q4
      replace hM := hM.upd (Upd.same no q1 q2 q3 q4)
      refine ⟨fun _ => ⟨fun _ => ⟨fun _ => ⟨fun _ => ?_, fun g => by simp at g⟩, fun g => by simp at g⟩, fun g => by simp at g⟩, fun g => by simp at g⟩
      obtain ⟨_, hA, _⟩ := hM.right
      obtain ⟨p1, c1, hB, _, _⟩ := hA.at
      obtain ⟨_, hA1, _⟩ := hM.left
      refine ⟨_, rfl, _, _, _, hB.cell rfl, ⟨(plen_ok hA1).mono ?_⟩⟩
      clear hA hA1
      rintro e w8 ⟨rfl, rfl⟩
      refine ⟨_, rfl, hB.cell rfl, fun _ => ?_, fun g => by simp at g⟩
      obtain ⟨_, hA, _⟩ := hM.left
      refine ⟨(listqC_ok hA).mono ?_⟩
      clear hA
      rintro e w9 ⟨_, _, rfl, hC, hU⟩
      replace hM := hM.upd hU
      obtain ⟨_, hA, _⟩ := hM.right
      refine ⟨_, _, _, rfl, ⟨(rpListC_ok hA hl).mono ?_⟩⟩
      clear hA hU
      rintro e w10 ⟨_, _, rfl, hC2, hU⟩
      replace hM := hM.upd hU
      have hll := listOf_len x.2
      refine ⟨_, _, _, rfl, ⟨(ints_ok (hC.no hU) hC2 (by simp only; omega)).mono ?_⟩⟩
      clear hU
      rintro e w11 ⟨rfl, hU⟩
      replace hM := hM.upd hU
      exact ⟨_, rfl, fun g => by simp at g, fun _ => ⟨(i + 1, x), ⟨rfl, rfl, rfl, by rw [w64 (by omega)]; rfl, trivial⟩, ⟨by simp only; omega, hM⟩, by simp only; omega⟩⟩

/-! ### What stands where -/
def prL (L : Its) : Its := L8.reverse.flatMap fun i => L.filter fun e => decide (e.1 = (i.val : Int))
theorem prL_ids (L : Its) : listOf L = (prL L).map (·.2) := by
  unfold listOf prL
  rw [List.map_flatMap]
  rfl
theorem prL_mem {L : Its} {e : Int × Int} (h : e ∈ prL L) : e ∈ L := by
  obtain ⟨i, _, hi⟩ := List.mem_flatMap.1 h
  exact (List.mem_filter.1 hi).1
theorem prL_down (L : Its) : (prL L).Pairwise fun a b => b.1 ≤ a.1 := by
  unfold prL
  rw [List.pairwise_flatMap]
  refine ⟨fun i _ => ?_, ?_⟩
  · rw [List.pairwise_filter]
    refine List.pairwise_of_forall fun a b ha hb => ?_
    have := of_decide_eq_true ha
    have := of_decide_eq_true hb
    omega
  · have h8 : L8.reverse.Pairwise fun (a b : Fin 8) => b.val ≤ a.val := by decide
    refine h8.imp fun {a b} hab x hx y hy => ?_
    have h1 := of_decide_eq_true (List.mem_filter.1 hx).2
    have h2 := of_decide_eq_true (List.mem_filter.1 hy).2
    omega
theorem prio_at {x : Nat × Its} (hV : PqV x) {k : Nat} (hk : k < (prL x.2).length) : prioE x (prL x.2)[k].2 = ((prL x.2)[k].1, true) := prio_in hV.one (prL_mem (List.getElem_mem hk))

theorem prioFirst_ok {W : World} {p : Option Addr} {l : List (Int × Int × Int)} {c : Nat} (_ : ∀ x ∈ l, okIII x) (h : Cells W p (l.flatMap recIII)) (_ : l.length ≤ maxLen) :
    Calls Try.prog 5 #[.slice p l.length c] W fun e w' => e = .returned (.bool true) ∧ Upd no W w' := by
  refine u5 ?_
  rw [t5]
  refine ⟨(pnew_ok 1024 W).mono ?_⟩
  rintro e w1 hh
  obtain ⟨_, b1, F1, rfl, hQ, hU, hF⟩ := hh.resolve_left (fun h => absurd (by unfold okP9; decide) h.1)
  have hM : Mine W w1 (PqO b1) (1024, []) := Mine.new (Upd.refl _ _) hU hQ hF
  clear hU hQ hF
  refine ⟨_, _, rfl, fun g => by simp at g, fun _ => ?_⟩
  refine ⟨WP_loop okProg (M := M5) (σ := Nat × (Nat × Its)) (fun x => e5_1 p l.length c (some ⟨b1, 0, none⟩) (x.1 : Int))
    (fun x w => x.1 ≤ l.length ∧ Mine W w (PqO b1) x.2) (fun x _ => l.length - x.1) (0, (1024, [])) ⟨rfl, rfl, rfl, trivial⟩ ⟨by simp, hM⟩ ?_⟩
  clear hM
  rintro ⟨i, x⟩ w ⟨h1, hM⟩
  simp only at h1 hM ⊢
  have hgo : ∀ w, Upd no W w → CutD Try.prog M5 c5_0 e5_0 w (k5_0 fun e w' => e = .returned (.bool true) ∧ Upd no W w') := by
    intro w hU
    refine CutD.mk ?_
    rw [t5_0]
    refine ⟨(known_ok w).mono ?_⟩
    rintro e w' ⟨rfl, hU2⟩
    exact ⟨_, rfl, rfl, hU.and hU2⟩
  rw [t5_1]
  refine ⟨fun g1 => ⟨fun g2 => ?_, fun g2 => hgo _ hM.U⟩, fun g1 => hgo _ hM.U⟩
  have hi : i < l.length := by simpa using g1
  have hi2 : i < 150 := by simp at g2; omega
  have next : ∀ w x, Mine W w (PqO b1) x → ∃ s : Nat × (Nat × Its), CoversL (e5_1 p l.length c (some ⟨b1, 0, none⟩) (IntKind.wrap .i64 ((i : Int) + 1))) (e5_1 p l.length c (some ⟨b1, 0, none⟩) (s.1 : Int)) ∧ (s.1 ≤ l.length ∧ Mine W w (PqO b1) s.2) ∧ l.length - s.1 < l.length - i :=
    fun w x hM => ⟨(i + 1, x), ⟨rfl, rfl, by rw [w64 (by omega)]; rfl, trivial⟩, ⟨by simp only; omega, hM⟩, by simp only; omega⟩
  have rest : ∀ w x, Mine W w (PqO b1) x → CutD Try.prog M5 c5_3 (e5_3 p l.length c (some ⟨b1, 0, none⟩) (i : Int)) w (k5_3 (fun E w' => ∃ s : Nat × (Nat × Its), CoversL E (e5_1 p l.length c (some ⟨b1, 0, none⟩) (s.1 : Int)) ∧ (s.1 ≤ l.length ∧ Mine W w' (PqO b1) s.2) ∧ l.length - s.1 < l.length - i) fun e w' => e = .returned (.bool true) ∧ Upd no W w') := by
    clear hM
    intro w x hM
    have hV : PqV x := by obtain ⟨_, hA, _⟩ := hM.turn; exact hA.V
    refine CutD.mk ?_
    rw [t5_3]
    obtain ⟨_, hA, _⟩ := hM.turn
    refine ⟨(listqC_ok hA).mono ?_⟩
    clear hA
    rintro e w2 ⟨p2, c2, rfl, hC, hU⟩
    replace hM := hM.upd hU
    clear hU
    obtain ⟨_, hA, _⟩ := hM.turn
    refine ⟨_, _, _, rfl, ⟨(topq_ok hA).mono ?_⟩⟩
    clear hA
    rintro e w3 ⟨rfl, hU⟩
    replace hM := hM.upd hU
    replace hC := hC.no hU
    clear hU
    have hpr := prL_ids x.2
    have hdn := prL_down x.2
    have hat := fun k hk => prio_at hV (k := k) hk
    have hlen := listOf_len x.2
    have hV' := hV.len
    unfold topE
    rw [hpr] at hC hlen ⊢
    generalize prL x.2 = L at hC hdn hat hlen ⊢
    cases L with
    | nil => exact ⟨_, _, rfl, fun _ => ⟨fun g => by simp at g, fun _ => next _ _ hM⟩, fun g => by simp at g⟩
    | cons v t =>
      refine ⟨_, _, rfl, fun g => by simp at g; omega, fun _ => ?_⟩
      obtain ⟨_, hA, _⟩ := hM.turn
      refine ⟨(prio_ok hA _).mono ?_⟩
      clear hA
      rintro e w4 ⟨rfl, rfl⟩
      have h0 := hat 0 (by simp)
      simp only [List.getElem_cons_zero] at h0
      obtain ⟨a, ha, hc⟩ := hC.at1 (i := 0) (by simp)
      simp only [List.map_cons, List.getElem_cons_zero] at hc
      simp only [List.map_cons]
      rw [h0]
      refine ⟨_, _, rfl, fun _ => ⟨⟨by omega, by simp⟩, a, ha, _, hc, fun _ => ⟨fun g => by simp at g, fun _ => ?_⟩, fun g => by simp at g⟩, fun g => by simp at g⟩
      simp only [List.length_cons, List.length_map] at hlen ⊢
      refine ⟨WP_loop okProg (M := M5) (σ := { k : Nat // k < (v :: t).length }) (fun k => e5_4 p l.length c (some ⟨b1, 0, none⟩) (i : Int) p2 (v :: t).length c2 ((v :: t)[k.1]'k.2).1 ((k.1 : Int) + 1))
        (fun k w' => w' = w4) (fun k _ => (v :: t).length - k.1) ⟨0, by simp⟩ ⟨rfl, rfl, rfl, rfl, rfl, rfl, trivial⟩ rfl ?_⟩
      have hlc : (v :: t).length = t.length + 1 := rfl
      rintro ⟨k, k1⟩ w5 rfl
      dsimp only
      rw [t5_4]
      refine ⟨fun g => ?_, fun g => next _ _ hM⟩
      have hk : k + 1 < (v :: t).length := by have := of_decide_eq_true g; omega
      have e1 : ((k : Int) + 1).toNat = k + 1 := by omega
      obtain ⟨a, ha, hc⟩ := hC.at1 (i := k + 1) (by simpa using hk)
      rw [e1]
      refine ⟨⟨by omega, by omega⟩, a, ha, _, hc, ?_⟩
      obtain ⟨_, hA, _⟩ := hM.turn
      refine ⟨(prio_ok hA _).mono ?_⟩
      clear hA
      rintro e w6 ⟨rfl, rfl⟩
      rw [List.getElem_map, hat _ hk]
      have hle := List.pairwise_iff_getElem.1 hdn k (k + 1) k1 hk (by omega)
      refine ⟨_, _, rfl, fun _ => ⟨fun g => absurd (of_decide_eq_true g) (by omega), fun _ => ⟨⟨k + 1, hk⟩, ⟨rfl, rfl, rfl, rfl, rfl, ?_, trivial⟩, rfl, ?_⟩⟩, fun g => by simp at g⟩
      · rw [w64 (by omega)]; rfl
      · dsimp only; omega
  obtain ⟨a, rfl, hc⟩ := (h.no hM.U).atk recIII_len (by decide) hi
  refine ⟨⟨by omega, by omega⟩, a, rfl, _, hc 0 _ rfl, by decide, fun g3 => ?_, fun g3 => ⟨fun g4 => ?_, fun g4 => ⟨fun g5 => ?_, fun g5 => ?_⟩⟩⟩
  · intro w2 q1 q2 q3 q4
    replace hM := hM.upd (Upd.same no q1 q2 q3 q4)
    obtain ⟨a', ha', hc⟩ := (h.no hM.U).atk recIII_len (by decide) hi
    cases ha'
    obtain ⟨_, hA, hT⟩ := hM.turn
    refine ⟨⟨by omega, by omega⟩, a, rfl, _, hc 1 _ rfl, ⟨by omega, by omega⟩, a, rfl, _, hc 2 _ rfl, ⟨(ppush_ok hA _ _).mono ?_⟩⟩
    rintro e w3 ⟨rfl, hU⟩
    exact ⟨_, rfl, rest _ _ (hT _ _ hU)⟩
  · obtain ⟨_, hA, hT⟩ := hM.turn
    refine ⟨(pturn_ok hA).mono ?_⟩
    rintro e w3 ⟨rfl, hU⟩
    exact ⟨_, rfl, rest _ _ (hT _ _ hU)⟩
  · obtain ⟨_, hA, hT⟩ := hM.turn
    refine ⟨⟨by omega, by omega⟩, a, rfl, _, hc 2 _ rfl, ⟨(pback_ok hA _).mono ?_⟩⟩
    rintro e w3 ⟨rfl, hU⟩
    exact ⟨_, rfl, rest _ _ (hT _ _ hU)⟩
  · obtain ⟨_, hA, hT⟩ := hM.turn
    refine ⟨⟨by omega, by omega⟩, a, rfl, _, hc 2 _ rfl, ⟨(pdrop_ok hA _).mono ?_⟩⟩
    rintro e w3 ⟨rfl, hU⟩
    exact ⟨_, rfl, rest _ _ (hT _ _ hU)⟩

/-! ### The turns of the greatest priority -/
theorem listOf_top {L : Its} {T : Nat} (hT : T < 8) (h : ∀ j, T < j → lvIds L j = []) : listOf L = lvIds L T ++ (List.range T).reverse.flatMap (lvIds L) := by
  have e : listOf L = lvIds L 7 ++ (lvIds L 6 ++ (lvIds L 5 ++ (lvIds L 4 ++ (lvIds L 3 ++ (lvIds L 2 ++ (lvIds L 1 ++ (lvIds L 0 ++ []))))))) := rfl
  have a7 := h 7; have a6 := h 6; have a5 := h 5; have a4 := h 4; have a3 := h 3; have a2 := h 2; have a1 := h 1
  rw [e]
  match T, hT with
  | 0, _ => simp [a7, a6, a5, a4, a3, a2, a1]
  | 1, _ => simp [a7, a6, a5, a4, a3, a2, List.range_succ]
  | 2, _ => simp [a7, a6, a5, a4, a3, List.range_succ]
  | 3, _ => simp [a7, a6, a5, a4, List.range_succ]
  | 4, _ => simp [a7, a6, a5, List.range_succ]
  | 5, _ => simp [a7, a6, List.range_succ]
  | 6, _ => simp [a7, List.range_succ]
  | 7, _ => simp [List.range_succ]
theorem lv_high {L : Its} (h : ∀ e ∈ L, 0 ≤ e.1 ∧ e.1 < 8) {j : Nat} (hj : 8 ≤ j) : lvIds L j = [] := by
  unfold lvIds
  rw [List.map_eq_nil_iff, List.filter_eq_nil_iff]
  intro e he
  have := h e he
  simp; omega
/-- The greatest level that has any. -/
theorem top_lv {L : Its} (h : ∀ e ∈ L, 0 ≤ e.1 ∧ e.1 < 8) (hne : listOf L ≠ []) : ∃ T, T < 8 ∧ lvIds L T ≠ [] ∧ ∀ j, T < j → lvIds L j = [] := by
  have hs : ∀ n, n ≤ 8 → (∀ j, n ≤ j → lvIds L j = []) → ∃ T, T < 8 ∧ lvIds L T ≠ [] ∧ ∀ j, T < j → lvIds L j = [] := by
    intro n
    induction n with
    | zero =>
      intro _ h0
      exfalso
      apply hne
      unfold listOf
      rw [List.flatMap_eq_nil_iff]
      exact fun i _ => h0 _ (Nat.zero_le _)
    | succ n ih =>
      intro hn h0
      by_cases hv : lvIds L n = []
      · exact ih (by omega) fun j hj => if e : j = n then e ▸ hv else h0 j (by omega)
      · exact ⟨n, by omega, hv, fun j hj => h0 j hj⟩
  exact hs 8 (Nat.le_refl _) fun j hj => lv_high h hj
theorem back_lv {x : Nat × Its} (hV : PqV x) {j : Nat} {a : Int} {t : List Int} (h : lvIds x.2 j = a :: t) : (pqBackS x a).1 = x.1 ∧ lvIds (pqBackS x a).2 j = t ++ [a] ∧ ∀ i, i ≠ j → lvIds (pqBackS x a).2 i = lvIds x.2 i := by
  have hka : ((j : Int), a) ∈ x.2 := lv_mem.1 (by rw [h]; exact List.mem_cons_self)
  have hb : pqBackS x a = (x.1, (pqDropS x a).2 ++ [((j : Int), a)]) := by rw [pqBackS, if_pos (in_iff.2 ⟨_, hka⟩), prio_in hV.one hka]
  have hnd := lv_nodup hV.one j
  rw [h, List.nodup_cons] at hnd
  rw [hb]
  refine ⟨rfl, ?_, fun i hij => ?_⟩
  · rw [lv_push, if_pos rfl, pqDropS, lv_drop, h, List.filter_cons]
    simp only [ne_eq, not_true_eq_false, decide_false, Bool.false_eq_true, if_false]
    congr 1
    apply List.filter_eq_self.2
    intro u hu
    rw [decide_eq_true_eq]
    rintro rfl
    exact hnd.1 hu
  · rw [lv_push, if_neg (by omega), List.append_nil, pqDropS, lv_drop]
    apply List.filter_eq_self.2
    intro u hu
    rw [decide_eq_true_eq]
    rintro rfl
    have := nodup_key hV.one (lv_mem.1 hu) hka rfl
    simp at this
    omega
/-- Behind some turns of the greatest level. -/
structure Rnd (x y : Nat × Its) (T i : Nat) : Prop where
  top : lvIds y.2 T = (lvIds x.2 T).drop i ++ (lvIds x.2 T).take i
  oth : ∀ j, j ≠ T → lvIds y.2 j = lvIds x.2 j
section
variable {x y : Nat × Its} {T i : Nat}
theorem Rnd.next (h : Rnd x y T i) (hV : PqV y) (hT : T < 8) (ht : ∀ j, T < j → lvIds x.2 j = []) (hi : i < (lvIds x.2 T).length) : topE y = ((lvIds x.2 T)[i], 0) ∧ Rnd x (pqTurnS y) T (i + 1) ∧ pqTurnE y = 0 := by
  have hd : (lvIds x.2 T).drop i = (lvIds x.2 T)[i] :: (lvIds x.2 T).drop (i + 1) := List.drop_eq_getElem_cons hi
  have h1 := h.top
  rw [hd, List.cons_append] at h1
  have h2 : topE y = ((lvIds x.2 T)[i], 0) := by
    unfold topE
    rw [listOf_top hT (fun j hj => by rw [h.oth j (by omega)]; exact ht j hj), h1]
    rfl
  have h3 := back_lv hV h1
  have h4 : pqTurnE y = 0 := by rw [pqTurnE, h2]
  refine ⟨h2, ⟨?_, fun j hj => ?_⟩, h4⟩
  · rw [pqTurnS, if_pos h4, h2, h3.2.1, List.append_assoc]
    congr 1
    rw [List.take_succ_eq_append_getElem hi]
  · rw [pqTurnS, if_pos h4, h2, h3.2.2 j hj, h.oth j hj]
theorem Rnd.all (h : Rnd x y T i) (hT : T < 8) (ht : ∀ j, T < j → lvIds x.2 j = []) (hi : i = (lvIds x.2 T).length) : listOf y.2 = listOf x.2 := by
  have h1 : lvIds y.2 T = lvIds x.2 T := by rw [h.top, hi, List.drop_length, List.take_length]; rfl
  rw [listOf_top hT (fun j hj => by rw [h.oth j (by omega)]; exact ht j hj), listOf_top hT ht, h1]
  congr 1
  rw [List.flatMap_def, List.flatMap_def]
  congr 1
  apply List.map_congr_left
  intro j hj
  exact h.oth j (by simp at hj; omega)
/-- The priority of one of them. -/
theorem Rnd.prio (h : Rnd x y T i) (hV : PqV y) (hT : T < 8) (ht : ∀ j, T < j → lvIds x.2 j = []) {k : Nat} (hk : k < (listOf x.2).length) : (k < (lvIds x.2 T).length → (listOf x.2)[k] = (lvIds x.2 T)[k]! ∧ prioE y (listOf x.2)[k] = ((T : Int), true)) ∧ ((lvIds x.2 T).length ≤ k → ∃ j : Nat, j < T ∧ prioE y (listOf x.2)[k] = ((j : Int), true)) := by
  have e := listOf_top hT ht
  have hq : ∀ {j : Nat} {a : Int}, a ∈ lvIds x.2 j → prioE y a = ((j : Int), true) := by
    intro j a ha
    refine prio_in hV.one (lv_mem.1 ?_)
    by_cases hj : j = T
    · subst hj
      rw [h.top]
      rw [← List.take_append_drop i (lvIds x.2 j)] at ha
      simp only [List.mem_append] at ha ⊢
      exact ha.symm
    · rw [h.oth j hj]; exact ha
  refine ⟨fun h1 => ?_, fun h1 => ?_⟩
  · have e1 : (listOf x.2)[k] = (lvIds x.2 T)[k] := by
      have : (listOf x.2)[k]? = some (lvIds x.2 T)[k] := by rw [e, List.getElem?_append_left h1, List.getElem?_eq_getElem h1]
      rw [List.getElem?_eq_getElem hk] at this
      exact Option.some.inj this
    refine ⟨by rw [e1]; simp [h1], ?_⟩
    rw [e1]
    exact hq (List.getElem_mem h1)
  · have e1 : (listOf x.2)[k] ∈ (List.range T).reverse.flatMap (lvIds x.2) := by
      have : (listOf x.2)[k]? = ((List.range T).reverse.flatMap (lvIds x.2))[k - (lvIds x.2 T).length]? := by rw [e, List.getElem?_append_right h1]
      rw [List.getElem?_eq_getElem hk] at this
      exact List.mem_of_getElem? this.symm
    obtain ⟨j, hj, ha⟩ := List.mem_flatMap.1 e1
    exact ⟨j, by simpa using hj, hq ha⟩
end

theorem prioRound_ok {W : World} {p : Option Addr} {l : List (Int × Int × Int)} {c : Nat} (_ : ∀ x ∈ l, okIII x) (h : Cells W p (l.flatMap recIII)) (_ : l.length ≤ maxLen) :
    Calls Try.prog 3 #[.slice p l.length c] W fun e w' => e = .returned (.bool true) ∧ Upd no W w' := by
  refine u3 ?_
  rw [t3]
  refine ⟨(pnew_ok 1024 W).mono ?_⟩
  rintro e w1 hh
  obtain ⟨_, b1, F1, rfl, hQ, hU, hF⟩ := hh.resolve_left (fun h => absurd (by unfold okP9; decide) h.1)
  have hM : Mine W w1 (PqO b1) (1024, []) := Mine.new (Upd.refl _ _) hU hQ hF
  clear hU hQ hF
  refine ⟨_, _, rfl, fun g => by simp at g, fun _ => ?_⟩
  refine ⟨WP_loop okProg (M := M3) (σ := Nat × (Nat × Its)) (fun x => e3_1 p l.length c (some ⟨b1, 0, none⟩) (x.1 : Int))
    (fun x w => x.1 ≤ l.length ∧ Mine W w (PqO b1) x.2) (fun x _ => l.length - x.1) (0, (1024, [])) ⟨rfl, rfl, rfl, trivial⟩ ⟨by simp, hM⟩ ?_⟩
  clear hM
  rintro ⟨i, x⟩ w ⟨h1, hM⟩
  simp only at h1 hM ⊢
  have fin : CutD Try.prog M3 c3_0 (e3_0 (some ⟨b1, 0, none⟩)) w (k3_0 fun e w' => e = .returned (.bool true) ∧ Upd no W w') := by
    have hV : PqV x := by obtain ⟨_, hA, _⟩ := hM.turn; exact hA.V
    have hlen := listOf_len x.2
    have hV' := hV.len
    refine CutD.mk ?_
    rw [t3_0]
    obtain ⟨_, hA, _⟩ := hM.turn
    refine ⟨(listq_ok hA).mono ?_⟩
    clear hA
    rintro e w2 ⟨p2, c2, rfl, hL⟩
    replace hM : Mine W w2 (Star (PqO b1) (Ls 3)) (x, (p2, c2, listOf x.2)) := hM.add hL.U ⟨fun _ => Iff.rfl, hL.S⟩ hL.F
    clear hL
    obtain ⟨_, hA, _⟩ := hM.left
    refine ⟨_, _, _, rfl, ⟨(topq_ok hA).mono ?_⟩⟩
    clear hA
    rintro e w3 ⟨rfl, hU⟩
    replace hM := hM.upd hU
    clear hU
    by_cases hne : listOf x.2 = []
    · have ht : topE x = (0, 12) := by unfold topE; rw [hne]
      rw [ht, hne]
      refine ⟨_, _, rfl, fun _ => ⟨fun _ => ⟨(known_ok w3).mono ?_⟩, fun g => by simp at g⟩, fun g => by simp at g⟩
      rintro e w' ⟨rfl, hU2⟩
      exact ⟨_, rfl, rfl, hM.U.and hU2⟩
    · obtain ⟨T, hT, hTn, hTt⟩ := top_lv hV.rng hne
      have hm : 0 < (lvIds x.2 T).length := List.length_pos_iff.2 hTn
      have hmle : (lvIds x.2 T).length ≤ (listOf x.2).length := by rw [listOf_top hT hTt, List.length_append]; omega
      have h0 : Rnd x x T 0 := ⟨by simp, fun _ _ => rfl⟩
      obtain ⟨k1, _, _⟩ := h0.next hV hT hTt hm
      obtain ⟨_, hA, _⟩ := hM.left
      rw [k1]
      refine ⟨_, _, rfl, fun g => by simp at g, fun _ => ⟨(prio_ok hA _).mono ?_⟩⟩
      clear hA
      rintro e w4 ⟨rfl, rfl⟩
      have k2 : prioE x (lvIds x.2 T)[0] = ((T : Int), true) := prio_in hV.one (lv_mem.1 (List.getElem_mem hm))
      rw [k2]
      refine ⟨_, _, rfl, ?_⟩
      refine ⟨WP_loop okProg (M := M3) (σ := Nat × (Nat × Its)) (fun s => e3_3 (some ⟨b1, 0, none⟩) p2 (listOf x.2).length c2 (T : Int) (s.1 : Int))
        (fun s w' => s.1 ≤ (lvIds x.2 T).length ∧ Rnd x s.2 T s.1 ∧ Mine W w' (Star (PqO b1) (Ls 3)) (s.2, (p2, c2, listOf x.2))) (fun s _ => (listOf x.2).length - s.1) (0, x) ⟨rfl, rfl, rfl, rfl, trivial⟩ ⟨by simp, h0, hM⟩ ?_⟩
      clear hM k1 k2 h0
      rintro ⟨j, y⟩ w5 ⟨j1, hR, hM⟩
      simp only at j1 hR hM ⊢
      have hVy : PqV y := by obtain ⟨_, hA, _⟩ := hM.left; exact hA.V
      have done : j = (lvIds x.2 T).length → CutD Try.prog M3 c3_2 (e3_2 (some ⟨b1, 0, none⟩) p2 (listOf x.2).length c2) w5 (k3_2 fun e w' => e = .returned (.bool true) ∧ Upd no W w') := by
        intro hj
        have ha := hR.all hT hTt hj
        have hly := listOf_len y.2
        have hVy' := hVy.len
        refine CutD.mk ?_
        rw [t3_2]
        obtain ⟨_, hA, _⟩ := hM.left
        refine ⟨(listqC_ok hA).mono ?_⟩
        clear hA
        rintro e w6 ⟨p3, c3, rfl, hC2, hU⟩
        replace hM := hM.upd hU
        refine ⟨_, _, _, rfl, ⟨(ints_ok hC2 (Ls.cells hM.right.choose_spec.1) (by simp only; omega)).mono ?_⟩⟩
        rintro e w7 ⟨rfl, hU⟩
        replace hM := hM.upd hU
        rw [ha]
        refine ⟨_, rfl, fun _ => ⟨(known_ok w7).mono ?_⟩, fun g => by simp at g⟩
        rintro e w' ⟨rfl, hU2⟩
        exact ⟨_, rfl, rfl, hM.U.and hU2⟩
      rw [t3_3]
      refine ⟨fun g => ?_, fun g => done ?_⟩
      · have hj : j < (listOf x.2).length := by simpa using g
        obtain ⟨pA, pB⟩ := hR.prio hVy hT hTt hj
        obtain ⟨a, ha, hc⟩ := (Ls.cells hM.right.choose_spec.1).at1 hj
        subst ha
        refine ⟨⟨by omega, by omega⟩, a, rfl, _, hc, ?_⟩
        obtain ⟨_, hA, _⟩ := hM.left
        refine ⟨(prio_ok hA _).mono ?_⟩
        clear hA
        rintro e w6 ⟨rfl, rfl⟩
        rcases Nat.lt_or_ge j (lvIds x.2 T).length with hjm | hjm
        · obtain ⟨q1, q2⟩ := pA hjm
          obtain ⟨n1, n2, n3⟩ := hR.next hVy hT hTt hjm
          have q3 : (lvIds x.2 T)[j] = (listOf x.2)[j] := by rw [q1]; simp [hjm]
          rw [q2]
          obtain ⟨_, hA, _⟩ := hM.left
          refine ⟨_, _, rfl, fun g => by simp at g, fun _ => ⟨(topq_ok hA).mono ?_⟩⟩
          clear hA
          rintro e w7 ⟨rfl, hU⟩
          replace hM := hM.upd hU
          clear hU
          obtain ⟨a', ha', hc⟩ := (Ls.cells hM.right.choose_spec.1).at1 hj
          cases ha'
          rw [n1, q3]
          obtain ⟨_, hA, hTu⟩ := hM.left
          refine ⟨_, _, rfl, ⟨by omega, by omega⟩, a, rfl, _, hc, fun _ => ⟨fun _ => ⟨(pturn_ok hA).mono ?_⟩, fun g => by simp at g⟩, fun g => by simp at g⟩
          rintro e w8 ⟨rfl, hU⟩
          replace hM := hTu _ _ hU
          rw [n3]
          exact ⟨_, rfl, fun g => by simp at g, fun _ => ⟨(j + 1, pqTurnS y), ⟨rfl, rfl, rfl, by rw [w64 (by omega)]; rfl, trivial⟩, ⟨by simp only; omega, n2, hM⟩, by simp only; omega⟩⟩
        · obtain ⟨k, hk, q⟩ := pB hjm
          rw [q]
          refine ⟨_, _, rfl, fun _ => done (by omega), fun g => ?_⟩
          simp at g; omega
      · simp at g; omega
  rw [t3_1]
  refine ⟨fun g1 => ⟨fun g2 => ?_, fun g2 => fin⟩, fun g1 => fin⟩
  have hi : i < l.length := by simpa using g1
  have hi2 : i < 100 := by simp at g2; omega
  intro w2 q1 q2 q3 q4
  replace hM := hM.upd (Upd.same no q1 q2 q3 q4)
  obtain ⟨a, rfl, hc⟩ := (h.no hM.U).atk recIII_len (by decide) hi
  obtain ⟨_, hA, hT⟩ := hM.turn
  refine ⟨⟨by omega, by omega⟩, a, rfl, _, hc 1 _ rfl, ⟨by omega, by omega⟩, a, rfl, _, hc 2 _ rfl, ⟨(ppush_ok hA _ _).mono ?_⟩⟩
  rintro e w3 ⟨rfl, hU⟩
  exact ⟨_, rfl, (i + 1, pqPushS x (l[i]).2.1 (l[i]).2.2), ⟨rfl, rfl, by rw [w64 (by omega)]; rfl, trivial⟩, ⟨by simp only; omega, hT _ _ hU⟩, by simp only; omega⟩
end Go.Dav
