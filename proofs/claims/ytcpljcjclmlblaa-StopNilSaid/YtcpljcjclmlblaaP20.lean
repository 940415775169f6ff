/- The statements on cores that are to stand still: what their functions come to. -/
import Derived.Test.YtcpljcjclmlblaaStop20
set_option linter.unusedSimpArgs false
set_option linter.unusedVariables false
namespace Go.Dav
open Go.Proofs

/-- The program's cores and the document's. -/
def StRel (s : BV × BV) (r : Bool × BV × BV) : Prop := (r.1 = true → s.1 ≠ 0 ∧ s = r.2) ∧ (r.1 = false → s = (0, 0))

section
variable {s : BV × BV} {r : Bool × BV × BV}
theorem rel_on (h : StRel s r) : (!(s.1 == 0)) = r.1 := by
  cases hr : r.1
  · rw [h.2 hr]; rfl
  · simpa using (h.1 hr).1
theorem rel_left (h : StRel s r) : sLeft s = rLeft r := by
  unfold sLeft rLeft
  cases hr : r.1
  · rw [h.2 hr]; simp
  · rw [(h.1 hr).2]; simp
theorem rel_ready (h : StRel s r) : sReady s = (r.1 && (rLeft r == 0)) := by rw [sReady, rel_on h, rel_left h]
theorem rel_must (h : StRel s r) (c : Int) : hs (sLeft s) c = rMust r c := by
  unfold sLeft rMust
  rw [hs_not]
  cases hr : r.1
  · rw [h.2 hr]; simp [hs_zero]
  · rw [(h.1 hr).2]; simp
theorem rel_mustL (h : StRel s r) (c : Int) : hs (rLeft r) c = rMust r c := by rw [← rel_left h, rel_must h]
theorem rel_held (h : StRel s r) (c : Int) : hs s.2 c = (r.1 && hs r.2.2 c) := by
  cases hr : r.1
  · rw [h.2 hr]; exact hs_zero c
  · rw [(h.1 hr).2]; simp
theorem rel_begin (h : StRel s r) {m : BV} : (sBegin s m).1 = (rBegin r m).1 ∧ StRel (sBegin s m).2 (rBegin r m).2 := by
  unfold sBegin rBegin
  cases hr : r.1
  · have h0 : s.1 = 0 := by rw [h.2 hr]
    by_cases hm : m = 0
    · simp only [h0, hm, if_true, Bool.false_eq_true, if_false]; exact ⟨by trivial, h⟩
    · simp only [h0, hm, if_true, Bool.false_eq_true, if_false]; exact ⟨by trivial, fun _ => ⟨hm, rfl⟩, fun h => by cases h⟩
  · have h0 : s.1 ≠ 0 := (h.1 hr).1
    simp only [h0, if_true, if_false]; exact ⟨by trivial, h⟩
theorem rel_ack (h : StRel s r) {c : Int} : (sAck s c).1 = (rAck r c).1 ∧ StRel (sAck s c).2 (rAck r c).2 := by
  unfold sAck rAck
  rw [rel_must h]
  by_cases hm : rMust r c = true
  · simp only [hm, if_true]
    have hr : r.1 = true := by unfold rMust at hm; cases hr : r.1 <;> simp_all
    obtain ⟨k1, k2⟩ := h.1 hr
    exact ⟨trivial, fun _ => ⟨k1, by rw [k2]⟩, fun e => absurd (hr.symm.trans e) (by decide)⟩
  · rw [if_neg hm, if_neg hm]; exact ⟨rfl, h⟩
theorem rel_free (h : StRel s r) : (sFree s).1 = (rFree r).1 ∧ StRel (sFree s).2 (rFree r).2 := by
  unfold sFree rFree
  cases hr : r.1
  · have h0 : s.1 = 0 := by rw [h.2 hr]
    rw [if_pos h0]; exact ⟨rfl, h⟩
  · have h0 : s.1 ≠ 0 := (h.1 hr).1
    rw [if_neg h0]; exact ⟨rfl, fun h => (by cases h), fun _ => rfl⟩
end

theorem known_ok (w : World) : Calls Try.prog 7 #[] w fun e w' => e = .returned (.bool true) ∧ Upd no w w' := by
  refine u7 ?_
  rw [t7]
  refine ⟨fun w2 hN => ?_⟩
  have hM : Mine w w2 (StO w.heap.size) (0, 0) := Mine.new (Upd.refl _ _) (hN.upd no) (Rw.new hN rfl) (fun _ h => Nat.le_of_eq h.symm)
  obtain ⟨_, hA, hT⟩ := hM.turn
  refine ⟨(begin_ok hA 5#64).mono ?_⟩
  rintro e w2 ⟨rfl, hU⟩
  replace hM := hT _ _ hU
  clear hA hT hU
  refine ⟨_, rfl, ?_⟩
  obtain ⟨_, hA, hT⟩ := hM.turn
  refine ⟨(ack_ok hA _).mono ?_⟩
  rintro e w2 ⟨rfl, hU⟩
  replace hM := hT _ _ hU
  clear hA hT hU
  refine ⟨_, rfl, ?_⟩
  obtain ⟨_, hA, hT⟩ := hM.turn
  refine ⟨(ready_ok hA).mono ?_⟩
  rintro e w2 ⟨rfl, hU⟩
  replace hM := hM.upd hU
  clear hA hT hU
  refine ⟨_, rfl, ?_⟩
  obtain ⟨_, hA, hT⟩ := hM.turn
  refine ⟨(ack_ok hA _).mono ?_⟩
  rintro e w2 ⟨rfl, hU⟩
  replace hM := hT _ _ hU
  clear hA hT hU
  refine ⟨_, rfl, ?_⟩
  refine ⟨fun g1 => ?_, fun g1 => ?_⟩
  · refine ⟨fun g2 => ?_, fun g2 => ?_⟩
    · refine ⟨fun g3 => ?_, fun g3 => ?_⟩
      · refine ⟨fun g4 => ?_, fun g4 => ?_⟩
        · obtain ⟨_, hA, hT⟩ := hM.turn
          refine ⟨(ready_ok hA).mono ?_⟩
          rintro e w2 ⟨rfl, hU⟩
          replace hM := hM.upd hU
          clear hA hT hU
          refine ⟨_, rfl, ?_⟩
          refine ⟨fun g5 => ?_, fun g5 => ?_⟩
          · obtain ⟨_, hA, hT⟩ := hM.turn
            refine ⟨(held_ok hA _).mono ?_⟩
            rintro e w2 ⟨rfl, rfl⟩
            clear hA hT
            refine ⟨_, rfl, ?_⟩
            refine ⟨fun g6 => ?_, fun g6 => ?_⟩
            · obtain ⟨_, hA, hT⟩ := hM.turn
              refine ⟨(on_ok hA).mono ?_⟩
              rintro e w2 ⟨rfl, rfl⟩
              clear hA hT
              refine ⟨_, rfl, ?_⟩
              refine ⟨fun g7 => ?_, fun g7 => ?_⟩
              · obtain ⟨_, hA, hT⟩ := hM.turn
                refine ⟨(ack_ok hA _).mono ?_⟩
                rintro e w2 ⟨rfl, hU⟩
                replace hM := hT _ _ hU
                clear hA hT hU
                refine ⟨_, rfl, ?_⟩
                exact ⟨congrArg (fun b => Ending.returned (Value.bool b)) (by decide), hM.U⟩
              · exact absurd g7 (by decide)
            · exact absurd g6 (by decide)
          · exact absurd g5 (by decide)
        · exact absurd g4 (by decide)
      · exact absurd g3 (by decide)
    · exact absurd g2 (by decide)
  · exact absurd g1 (by decide)

theorem stopNil_ok {W : World} {c : Int} (_ : (Lit.int .i64 c).wf = true) (m : BV) : Calls Try.prog 5 #[.int .i64 c, .int .u64 (mi m)] W fun e w' => e = .returned (.bool true) ∧ Upd no W w' := by
  refine u5 ?_
  rw [t5]
  refine ⟨(beginNil_ok _ _).mono ?_⟩
  rintro e w2 ⟨rfl, rfl⟩
  refine ⟨_, rfl, ?_⟩
  refine ⟨fun g1 => ?_, fun g1 => ?_⟩
  · refine ⟨(ackNil_ok _ _).mono ?_⟩
    rintro e w2 ⟨rfl, rfl⟩
    refine ⟨_, rfl, ?_⟩
    refine ⟨fun g2 => ?_, fun g2 => ?_⟩
    · refine ⟨(mustNil_ok _ _).mono ?_⟩
      rintro e w2 ⟨rfl, rfl⟩
      refine ⟨_, rfl, ?_⟩
      refine ⟨fun g3 => ?_, fun g3 => ?_⟩
      · refine ⟨(heldNil_ok _ _).mono ?_⟩
        rintro e w2 ⟨rfl, rfl⟩
        refine ⟨_, rfl, ?_⟩
        refine ⟨fun g4 => ?_, fun g4 => ?_⟩
        · refine ⟨(readyNil_ok _).mono ?_⟩
          rintro e w2 ⟨rfl, rfl⟩
          refine ⟨_, rfl, ?_⟩
          refine ⟨fun g5 => ?_, fun g5 => ?_⟩
          · refine ⟨(freeNil_ok _).mono ?_⟩
            rintro e w2 ⟨rfl, rfl⟩
            refine ⟨_, rfl, ?_⟩
            refine ⟨fun g6 => ?_, fun g6 => ?_⟩
            · refine ⟨(onNil_ok _).mono ?_⟩
              rintro e w2 ⟨rfl, rfl⟩
              refine ⟨_, rfl, ?_⟩
              refine ⟨fun g7 => ?_, fun g7 => ?_⟩
              · refine ⟨(leftNil_ok _).mono ?_⟩
                rintro e w2 ⟨rfl, rfl⟩
                refine ⟨_, rfl, ?_⟩
                refine ⟨fun g8 => ?_, fun g8 => ?_⟩
                · refine ⟨(known_ok _).mono ?_⟩
                  rintro e w2 ⟨rfl, hU⟩
                  refine ⟨_, rfl, ?_⟩
                  exact ⟨rfl, hU⟩
                · exact absurd g8 (by decide)
              · exact absurd g7 (by decide)
            · exact absurd g6 (by decide)
          · exact absurd g5 (by decide)
        · exact absurd g4 (by decide)
      · exact absurd g3 (by decide)
    · exact absurd g2 (by decide)
  · exact absurd g1 (by decide)

theorem r4_3 {W w : World} {p : Option Addr} {n c : Nat} {b1 b2 b3 : Nat} {i : Int} {s : BV × BV} {r : Bool × BV × BV} {a : Int × Int × BV} {B : Env → World → Prop}
    (hM : Mine W w (Star (Star (StO b1) (RsO b2)) (Rw b3 41 recIIU)) ((s, r), a)) (hR : StRel s r)
    (hB : ∀ w', Mine W w' (Star (StO b1) (RsO b2)) (s, r) → B (e4_1 p n c (some ⟨b1, 0, none⟩) (some ⟨b2, 0, none⟩) (IntKind.wrap .i64 (i + 1))) w') :
    CutD Try.prog M4 c4_3 (e4_3 p n c (some ⟨b1, 0, none⟩) (some ⟨b2, 0, none⟩) i ⟨b3, 0, none⟩) w (k4_3 B fun e w' => e = .returned (.bool true) ∧ Upd no W w') := by
  refine CutD.mk ?_
  rw [t4_3]
  intro w1 q1 q2 q3 q4
  replace hM := hM.upd (Upd.same no q1 q2 q3 q4)
  refine ⟨_, rfl, ?_⟩
  refine ⟨_,  (atBlk hM.lr).cell rfl, ?_⟩
  obtain ⟨_, hA, hT⟩ := hM.ll
  refine ⟨(on_ok hA).mono ?_⟩
  rintro e w2 ⟨rfl, rfl⟩
  clear hA hT
  refine ⟨_, rfl, ?_⟩
  refine ⟨(atBlk hM.lr).cell rfl, ?_⟩
  refine ⟨fun g1 => ?_, fun g1 => ?_⟩
  · refine ⟨_,  (atBlk hM.right).cell rfl, ?_⟩
    refine ⟨_,  (atBlk hM.right).cell rfl, ?_⟩
    obtain ⟨_, hA, hT⟩ := hM.ll
    refine ⟨(must_ok hA _).mono ?_⟩
    rintro e w2 ⟨rfl, hU⟩
    replace hM := hM.upd hU
    clear hA hT hU
    refine ⟨_, rfl, ?_⟩
    refine ⟨(atBlk hM.right).cell rfl, ?_⟩
    obtain ⟨_, hA, hT⟩ := hM.lr
    refine ⟨(rmust_ok hA _).mono ?_⟩
    rintro e w2 ⟨rfl, rfl⟩
    clear hA hT
    refine ⟨_, rfl, ?_⟩
    refine ⟨fun g2 => ?_, fun g2 => ?_⟩
    · refine ⟨_,  (atBlk hM.right).cell rfl, ?_⟩
      refine ⟨_,  (atBlk hM.right).cell rfl, ?_⟩
      obtain ⟨_, hA, hT⟩ := hM.ll
      refine ⟨(held_ok hA _).mono ?_⟩
      rintro e w2 ⟨rfl, rfl⟩
      clear hA hT
      refine ⟨_, rfl, ?_⟩
      refine ⟨(atBlk hM.right).cell rfl, ?_⟩
      obtain ⟨_, hA, hT⟩ := hM.lr
      refine ⟨(rholds_ok hA _).mono ?_⟩
      rintro e w2 ⟨rfl, rfl⟩
      clear hA hT
      refine ⟨_, rfl, ?_⟩
      refine ⟨fun g3 => ?_, fun g3 => ?_⟩
      · obtain ⟨_, hA, hT⟩ := hM.ll
        refine ⟨(ready_ok hA).mono ?_⟩
        rintro e w2 ⟨rfl, hU⟩
        replace hM := hM.upd hU
        clear hA hT hU
        refine ⟨_, rfl, ?_⟩
        obtain ⟨_, hA, hT⟩ := hM.lr
        refine ⟨(rready_ok hA).mono ?_⟩
        rintro e w2 ⟨rfl, hU⟩
        replace hM := hM.upd hU
        clear hA hT hU
        refine ⟨_, rfl, ?_⟩
        refine ⟨fun g4 => ?_, fun g4 => ?_⟩
        · obtain ⟨_, hA, hT⟩ := hM.ll
          refine ⟨(left_ok hA).mono ?_⟩
          rintro e w2 ⟨rfl, hU⟩
          replace hM := hM.upd hU
          clear hA hT hU
          refine ⟨_, rfl, ?_⟩
          obtain ⟨_, hA, hT⟩ := hM.lr
          refine ⟨(rleft_ok hA).mono ?_⟩
          rintro e w2 ⟨rfl, hU⟩
          replace hM := hM.upd hU
          clear hA hT hU
          refine ⟨_, rfl, ?_⟩
          refine ⟨fun g5 => ?_, fun g5 => ?_⟩
          · simp only [rel_on hR, rel_must hR, rel_mustL hR, rel_held hR, rel_left hR, rel_ready hR] at g5; simp at g5
          · exact hB _ hM.drop
        · simp only [rel_on hR, rel_must hR, rel_mustL hR, rel_held hR, rel_left hR, rel_ready hR] at g4; simp at g4
      · simp only [rel_on hR, rel_must hR, rel_mustL hR, rel_held hR, rel_left hR, rel_ready hR] at g3; simp at g3
    · simp only [rel_on hR, rel_must hR, rel_mustL hR, rel_held hR, rel_left hR, rel_ready hR] at g2; simp at g2
  · simp only [rel_on hR, rel_must hR, rel_mustL hR, rel_held hR, rel_left hR, rel_ready hR] at g1; simp at g1

theorem stopPlays_ok {W : World} {p : Option Addr} {l : List (Int × Int × BV)} {c : Nat} (_ : ∀ x ∈ l, okIIU x) (h : Cells W p (l.flatMap recIIU)) (_ : l.length ≤ maxLen) :
    Calls Try.prog 4 #[.slice p l.length c] W fun e w' => e = .returned (.bool true) ∧ Upd no W w' := by
  refine u4 ?_
  rw [t4]
  refine ⟨fun w1 hN1 => ⟨fun w2 hN2 => ?_⟩⟩
  have hM : Mine W w1 (StO W.heap.size) (0, 0) := Mine.new (Upd.refl _ _) (hN1.upd no) (Rw.new hN1 rfl) (fun _ h => Nat.le_of_eq h.symm)
  replace hM : Mine W w2 (Star (StO W.heap.size) (RsO w1.heap.size)) ((0, 0), (false, 0, 0)) := hM.add (hN2.upd no) (Rw.new hN2 rfl) (fun _ h => Nat.le_of_eq h.symm)
  generalize w1.heap.size = b2 at hM ⊢
  generalize hb1 : W.heap.size = b1 at hM ⊢
  refine ⟨WP_loop okProg (M := M4) (σ := Nat × (BV × BV) × (Bool × BV × BV)) (fun x => e4_1 p l.length c (some ⟨b1, 0, none⟩) (some ⟨b2, 0, none⟩) (x.1 : Int))
    (fun x w => x.1 ≤ l.length ∧ x.1 ≤ 150 ∧ Mine W w (Star (StO b1) (RsO b2)) (x.2.1, x.2.2) ∧ StRel x.2.1 x.2.2) (fun x _ => l.length - x.1) (0, (0, 0), (false, 0, 0)) ⟨rfl, rfl, rfl, rfl, trivial⟩
    ⟨by simp, by simp, hM, fun h => by simp at h, fun _ => rfl⟩ ?_⟩
  clear hM hN1 hN2
  rintro ⟨i, s, r⟩ w ⟨h1, h2, hM, hR⟩
  simp only at h1 h2 hM hR ⊢
  have hgo : CutD Try.prog M4 c4_0 e4_0 w (k4_0 fun e w' => e = .returned (.bool true) ∧ Upd no W w') := by
    refine CutD.mk ?_
    rw [t4_0]
    refine ⟨(known_ok w).mono ?_⟩
    rintro e w' ⟨rfl, hU⟩
    exact ⟨_, rfl, rfl, hM.U.and hU⟩
  rw [t4_1]
  refine ⟨fun g1 => ?_, fun g1 => ?_⟩
  · refine ⟨fun g2 => ?_, fun g2 => ?_⟩
    · have hi : i < l.length := by simpa using g1
      have hi2 : i < 150 := by simp at g2; omega
      refine ⟨⟨by omega, by omega⟩, ?_⟩
      obtain ⟨_, ha, hc⟩ := (h.no hM.U).atk recIIU_len (by decide) hi
      cases ha
      refine ⟨_, rfl, ?_⟩
      refine ⟨_,  hc 0 _ rfl, ?_⟩
      refine ⟨_,  hc 1 _ rfl, ?_⟩
      refine ⟨_,  hc 2 _ rfl, ?_⟩
      refine ⟨fun w2 hN => ?_⟩
      replace hM := hM.add (hN.upd no) (Rw.new (enc := recIIU) (s := (0, 0, 0)) hN rfl) (fun _ h => Nat.le_of_eq h.symm)
      obtain ⟨_, hA, hT⟩ := hM.right
      refine hA.blk.wr0 (by simp [recIIU]) fun w3 hW => ?_
      replace hM := hT _ (l[i]) (hA.turned hW.U hW.blk')
      clear hA hT hW
      refine ⟨_,  (atBlk hM.right).cell rfl, ?_⟩
      refine ⟨by decide, ?_⟩
      refine ⟨fun g3 => ?_, fun g3 => ?_⟩
      · intro w1 q1 q2 q3 q4
        replace hM := hM.upd (Upd.same no q1 q2 q3 q4)
        refine ⟨_,  (atBlk hM.right).cell rfl, ?_⟩
        refine ⟨_,  (atBlk hM.right).cell rfl, ?_⟩
        obtain ⟨_, hA, hT⟩ := hM.ll
        refine ⟨(begin_ok hA _).mono ?_⟩
        rintro e w2 ⟨rfl, hU⟩
        replace hM := hT _ _ hU
        clear hA hT hU
        refine ⟨_, rfl, ?_⟩
        refine ⟨(atBlk hM.right).cell rfl, ?_⟩
        obtain ⟨_, hA, hT⟩ := hM.lr
        refine ⟨(rbegin_ok hA _).mono ?_⟩
        rintro e w2 ⟨rfl, hU⟩
        replace hM := hT _ _ hU
        clear hA hT hU
        refine ⟨_, rfl, ?_⟩
        refine ⟨fun g4 => ?_, fun g4 => ?_⟩
        · rw [(rel_begin hR).1] at g4; simp at g4
        · refine r4_3 hM (rel_begin hR).2 fun w4 hM => ?_
          exact ⟨(i + 1, _, _), ⟨rfl, rfl, rfl, by rw [w64 (by omega)]; rfl, trivial⟩, ⟨by simp only; omega, by simp only; omega, hM, (rel_begin hR).2⟩, by simp only; omega⟩
      · refine ⟨fun g5 => ?_, fun g5 => ?_⟩
        · intro w1 q1 q2 q3 q4
          replace hM := hM.upd (Upd.same no q1 q2 q3 q4)
          refine ⟨_,  (atBlk hM.right).cell rfl, ?_⟩
          refine ⟨_,  (atBlk hM.right).cell rfl, ?_⟩
          obtain ⟨_, hA, hT⟩ := hM.ll
          refine ⟨(ack_ok hA _).mono ?_⟩
          rintro e w2 ⟨rfl, hU⟩
          replace hM := hT _ _ hU
          clear hA hT hU
          refine ⟨_, rfl, ?_⟩
          refine ⟨(atBlk hM.right).cell rfl, ?_⟩
          obtain ⟨_, hA, hT⟩ := hM.lr
          refine ⟨(rack_ok hA _).mono ?_⟩
          rintro e w2 ⟨rfl, hU⟩
          replace hM := hT _ _ hU
          clear hA hT hU
          refine ⟨_, rfl, ?_⟩
          refine ⟨fun g6 => ?_, fun g6 => ?_⟩
          · rw [(rel_ack hR).1] at g6; simp at g6
          · refine r4_3 hM (rel_ack hR).2 fun w4 hM => ?_
            exact ⟨(i + 1, _, _), ⟨rfl, rfl, rfl, by rw [w64 (by omega)]; rfl, trivial⟩, ⟨by simp only; omega, by simp only; omega, hM, (rel_ack hR).2⟩, by simp only; omega⟩
        · obtain ⟨_, hA, hT⟩ := hM.ll
          refine ⟨(free_ok hA).mono ?_⟩
          rintro e w2 ⟨rfl, hU⟩
          replace hM := hT _ _ hU
          clear hA hT hU
          refine ⟨_, rfl, ?_⟩
          obtain ⟨_, hA, hT⟩ := hM.lr
          refine ⟨(rfree_ok hA).mono ?_⟩
          rintro e w2 ⟨rfl, hU⟩
          replace hM := hT _ _ hU
          clear hA hT hU
          refine ⟨_, rfl, ?_⟩
          refine ⟨fun g7 => ?_, fun g7 => ?_⟩
          · rw [(rel_free hR).1] at g7; simp at g7
          · refine r4_3 hM (rel_free hR).2 fun w4 hM => ?_
            exact ⟨(i + 1, _, _), ⟨rfl, rfl, rfl, by rw [w64 (by omega)]; rfl, trivial⟩, ⟨by simp only; omega, by simp only; omega, hM, (rel_free hR).2⟩, by simp only; omega⟩
    · exact hgo
  · exact hgo

theorem ack_iff (s : BV × BV) (c : Int) : ((sAck s c).1 == 0) = hs (sLeft s) c := by
  unfold sAck
  cases h : hs (sLeft s) c <;> simp
theorem ack_fst (s : BV × BV) (c : Int) : (sAck s c).2.1 = s.1 := by
  unfold sAck
  split <;> rfl
theorem ack_left (s : BV × BV) (c : Int) : ls (sLeft s) c = sLeft (sAck s c).2 := by
  unfold sAck
  cases h : hs (sLeft s) c
  · rw [ls_has h]; simp
  · refine ext_hs fun d _ _ => ?_
    simp only [if_true, sLeft, hs_ls, hs_not, hs_wi]
    by_cases hd : d = c
    · subst hd; simp [hs_in h]
    · simp [hd]
theorem sReady_of {s : BV × BV} (h : s.1 ≠ 0) : sReady s = (sLeft s == 0) := by
  unfold sReady
  rw [beq_false_of_ne h]; rfl

theorem sBegin_new {m : BV} (h : m ≠ 0) : sBegin (0, 0) m = (0, (m, 0)) := by unfold sBegin; rw [if_pos rfl, if_neg h]

theorem stopAll_ok {W : World} (m : BV) {p : Option Addr} {l : List Int} {c : Nat} (_ : ∀ x ∈ l, (Lit.int .i64 x).wf = true) (h : Cells W p (l.map (Value.int .i64))) (_ : l.length ≤ maxLen) :
    Calls Try.prog 3 #[.int .u64 (mi m), .slice p l.length c] W fun e w' => e = .returned (.bool true) ∧ Upd no W w' := by
  refine u3 ?_
  rw [t3]
  refine ⟨fun w1 hN1 => ?_⟩
  have hM : Mine W w1 (StO W.heap.size) (0, 0) := Mine.new (Upd.refl _ _) (hN1.upd no) (Rw.new hN1 rfl) (fun _ h => Nat.le_of_eq h.symm)
  generalize W.heap.size = b1 at hM ⊢
  obtain ⟨_, hA, hT⟩ := hM.turn
  refine ⟨(begin_ok hA m).mono ?_⟩
  rintro e w2 ⟨rfl, hU⟩
  replace hM := hT _ _ hU
  clear hA hT hU
  refine ⟨_, rfl, fun g => ⟨fun g2 => ⟨(known_ok w2).mono ?_⟩, fun g2 => ?_⟩, fun g => ?_⟩
  · rintro e w3 ⟨rfl, hU⟩
    exact ⟨_, rfl, rfl, hM.U.and hU⟩
  · rw [mi_beq0] at g2
    have : m ≠ 0 := by simpa using g2
    rw [sBegin_new this] at g; simp at g
  · have hm : m ≠ 0 := fun e => by subst e; simp [sBegin] at g
    have hb : (sBegin (0, 0) m).2 = (m, 0) := by rw [sBegin_new hm]
    rw [hb] at hM
    have hl : sLeft (m, 0) = m := ext_hs fun d _ _ => by rw [sLeft, hs_not, hs_zero]; simp
    refine ⟨WP_loop okProg (M := M3) (σ := Nat × (BV × BV)) (fun x => e3_1 p l.length c (some ⟨b1, 0, none⟩) (mi (sLeft x.2)) (x.1 : Int))
      (fun x w => x.1 ≤ l.length ∧ x.1 ≤ 200 ∧ Mine W w (StO b1) x.2 ∧ x.2.1 ≠ 0) (fun x _ => l.length - x.1) (0, (m, 0)) ⟨rfl, rfl, by rw [hl]; rfl, rfl, trivial⟩ ⟨by simp, by simp, hM, hm⟩ ?_⟩
    clear hM
    rintro ⟨i, s⟩ w ⟨h1, h2, hM, hs1⟩
    simp only at h1 h2 hM hs1 ⊢
    have hgo : CutD Try.prog M3 c3_0 (e3_0 (some ⟨b1, 0, none⟩) (mi (sLeft s))) w (k3_0 fun e w' => e = .returned (.bool true) ∧ Upd no W w') := by
      refine CutD.mk ?_
      rw [t3_0]
      obtain ⟨_, hA, hT⟩ := hM.turn
      refine ⟨(left_ok hA).mono ?_⟩
      rintro e w' ⟨rfl, hU⟩
      refine ⟨_, rfl, fun _ => ⟨(known_ok w').mono ?_⟩, fun g => by simp at g⟩
      rintro e w3 ⟨rfl, hU3⟩
      exact ⟨_, rfl, rfl, (hM.U.and hU).and hU3⟩
    rw [t3_1]
    refine ⟨fun g1 => ?_, fun g1 => ?_⟩
    · refine ⟨fun g2 => ?_, fun g2 => ?_⟩
      · have hi : i < l.length := by simpa using g1
        have hi2 : i < 200 := by simp at g2; omega
        refine ⟨⟨by omega, by omega⟩, ?_⟩
        obtain ⟨_, ha, hc⟩ := (h.no hM.U).at1 hi
        cases ha
        refine ⟨_, rfl, ?_⟩
        refine ⟨_,  hc, ?_⟩
        refine ⟨(rHas_ok _ _ _).mono ?_⟩
        rintro e w2 ⟨rfl, rfl⟩
        refine ⟨_, rfl, ?_⟩
        refine ⟨⟨by omega, by omega⟩, ?_⟩
        obtain ⟨_, ha, hc⟩ := (h.no hM.U).at1 hi
        cases ha
        refine ⟨_, rfl, ?_⟩
        refine ⟨_,  hc, ?_⟩
        obtain ⟨_, hA, hT⟩ := hM.turn
        refine ⟨(ack_ok hA _).mono ?_⟩
        rintro e w2 ⟨rfl, hU⟩
        replace hM := hT _ _ hU
        clear hA hT hU
        refine ⟨_, rfl, ?_⟩
        refine ⟨fun g3 => ?_, fun g3 => ?_⟩
        · simp only [ack_iff, ack_left, sReady_of (s := (sAck s l[i]).2) (by rw [ack_fst]; exact hs1), mi_beq0] at g3; simp at g3
        · refine ⟨⟨by omega, by omega⟩, ?_⟩
          obtain ⟨_, ha, hc⟩ := (h.no hM.U).at1 hi
          cases ha
          refine ⟨_, rfl, ?_⟩
          refine ⟨_,  hc, ?_⟩
          refine ⟨(rLess_ok _ _ _).mono ?_⟩
          rintro e w2 ⟨rfl, rfl⟩
          refine ⟨_, rfl, ?_⟩
          obtain ⟨_, hA, hT⟩ := hM.turn
          refine ⟨(ready_ok hA).mono ?_⟩
          rintro e w2 ⟨rfl, hU⟩
          replace hM := hM.upd hU
          clear hA hT hU
          refine ⟨_, rfl, ?_⟩
          refine ⟨fun g4 => ?_, fun g4 => ?_⟩
          · simp only [ack_iff, ack_left, sReady_of (s := (sAck s l[i]).2) (by rw [ack_fst]; exact hs1), mi_beq0] at g4; simp at g4
          · exact ⟨(i + 1, (sAck s l[i]).2), ⟨rfl, rfl, by rw [ack_left]; rfl, by rw [w64 (by omega)]; rfl, trivial⟩, ⟨by simp only; omega, by simp only; omega, hM, by simp only [ack_fst]; exact hs1⟩, by simp only; omega⟩
      · exact hgo
    · exact hgo
end Go.Dav
