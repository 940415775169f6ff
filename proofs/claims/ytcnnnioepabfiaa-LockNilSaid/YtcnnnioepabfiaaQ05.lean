/- The statement on a lock that cores take and leave: what its functions come to. -/
import Derived.Test.YtcnnnioepabfiaaLk05
set_option linter.unusedSimpArgs false
set_option linter.unusedVariables false
namespace Go.Dav
open Go.Proofs

theorem own2 (q : List Int) : (ownE q).2 = decide (0 < q.length) := by cases q <;> simp [ownE]
theorem own_pos {q : List Int} (h : (ownE q).2 = true) : 0 < q.length := by simpa [own2] using h
theorem own1 {q : List Int} (h : 0 < q.length) : (ownE q).1 = q[0] := by
  cases q with
  | nil => simp at h
  | cons x q => rfl
theorem own0 {q : List Int} (h : ¬ 0 < q.length) : (ownE q).1 = 0 := by cases q <;> simp_all [ownE]
theorem take_len (q : List Int) (c : Int) : (takeL q c).length ≤ q.length + 1 := by unfold takeL; split <;> simp
theorem leave_len (q : List Int) (c : Int) : (leaveL q c).length ≤ q.length + 1 := by unfold leaveL; split <;> simp; omega
theorem take_wf {q : List Int} {c : Int} (h : q.Nodup) : (takeL q c).Nodup := by
  unfold takeL
  split
  · rename_i h0
    unfold takeE at h0
    split at h0
    · cases h0
    · split at h0
      · cases h0
      · rename_i h2
        exact List.nodup_append.2 ⟨h, by simp, fun a ha b hb => by simp at hb; subst hb; exact fun e => h2 (e ▸ ha)⟩
  · exact h
theorem leave_wf {q : List Int} {c : Int} (h : q.Nodup) : (leaveL q c).Nodup := by
  unfold leaveL
  split
  · exact h.tail
  · exact h

theorem known_ok (w : World) : Calls Try.prog 11 #[] w fun e w' => e = .returned (.bool true) ∧ Upd no w w' := by
  refine u11 ?_
  rw [t11]
  refine ⟨fun w2 hN => ?_⟩
  have hM : Mine w w2 (LkO w.heap.size) ([], none, 0) := Mine.new (Upd.refl _ _) (hN.upd no) (Hd.nil hN rfl rfl rfl) (fun _ h => Nat.le_of_eq h.symm)
  obtain ⟨_, hA, hT⟩ := hM.turn
  refine ⟨(take_ok hA (by decide) _).mono ?_⟩
  rintro e w2 ⟨rfl, _, hU⟩
  replace hM := hT _ _ hU
  clear hA hT hU
  refine ⟨_, rfl, ?_⟩
  obtain ⟨_, hA, hT⟩ := hM.turn
  refine ⟨(take_ok hA (by decide) _).mono ?_⟩
  rintro e w2 ⟨rfl, _, hU⟩
  replace hM := hT _ _ hU
  clear hA hT hU
  refine ⟨_, rfl, ?_⟩
  obtain ⟨_, hA, hT⟩ := hM.turn
  refine ⟨(owner_ok hA).mono ?_⟩
  rintro e w2 ⟨rfl, rfl⟩
  clear hA hT
  refine ⟨_, _, rfl, ?_⟩
  obtain ⟨_, hA, hT⟩ := hM.turn
  refine ⟨(leave_ok hA _).mono ?_⟩
  rintro e w2 ⟨rfl, _, hU⟩
  replace hM := hT _ _ hU
  clear hA hT hU
  refine ⟨_, rfl, ?_⟩
  obtain ⟨_, hA, hT⟩ := hM.turn
  refine ⟨(leave_ok hA _).mono ?_⟩
  rintro e w2 ⟨rfl, _, hU⟩
  replace hM := hT _ _ hU
  clear hA hT hU
  refine ⟨_, rfl, ?_⟩
  obtain ⟨_, hA, hT⟩ := hM.turn
  refine ⟨(owner_ok hA).mono ?_⟩
  rintro e w2 ⟨rfl, rfl⟩
  clear hA hT
  refine ⟨_, _, rfl, ?_⟩
  refine ⟨fun g1 => ?_, fun g1 => ?_⟩
  · refine ⟨fun g2 => ?_, fun g2 => ?_⟩
    · refine ⟨fun g3 => ?_, fun g3 => ?_⟩
      · refine ⟨fun g4 => ?_, fun g4 => ?_⟩
        · refine ⟨fun g5 => ?_, fun g5 => ?_⟩
          · refine ⟨fun g6 => ?_, fun g6 => ?_⟩
            · refine ⟨fun g7 => ?_, fun g7 => ?_⟩
              · exact ⟨congrArg (fun b => Ending.returned (Value.bool b)) (by decide), hM.U⟩
              · exact absurd g7 (by decide)
            · exact absurd g6 (by decide)
          · exact absurd g5 (by decide)
        · exact absurd g4 (by decide)
      · exact absurd g3 (by decide)
    · exact absurd g2 (by decide)
  · exact absurd g1 (by decide)

theorem r4_3 {W w : World} {p : Option Addr} {n c : Nat} {b1 b2 : Nat} {i : Int} {q : List Int} {y1 y2 : Option Addr × Nat} {B : Env → World → Prop}
    (hM : Mine W w (Star (LkO b1) (RkO b2)) ((q, y1), (q, y2))) (hl : q.length ≤ 300)
    (hB : ∀ w', Mine W w' (Star (LkO b1) (RkO b2)) ((q, y1), (q, y2)) → B (e4_1 p n c (some ⟨b1, 0, none⟩) (some ⟨b2, 0, none⟩) (IntKind.wrap .i64 (i + 1))) w') :
    CutD Try.prog M4 c4_3 (e4_3 p n c (some ⟨b1, 0, none⟩) (some ⟨b2, 0, none⟩) i) w (k4_3 B fun e w' => e = .returned (.bool true) ∧ Upd no W w') := by
  refine CutD.mk ?_
  rw [t4_3]
  obtain ⟨_, hA, hT⟩ := hM.left
  refine ⟨(owner_ok hA).mono ?_⟩
  rintro e w2 ⟨rfl, rfl⟩
  clear hA hT
  refine ⟨_, _, rfl, ?_⟩
  intro w1 q1 q2 q3 q4
  replace hM := hM.upd (Upd.same no q1 q2 q3 q4)
  refine ⟨_, rfl, ?_⟩
  refine ⟨_, _, _,  (atHd hM.right).cell rfl, ?_⟩
  refine ⟨fun g1 => ?_, fun g1 => ?_⟩
  · refine ⟨fun g2 => ?_, fun g2 => ?_⟩
    · refine ⟨_, rfl, ?_⟩
      refine ⟨_, _, _,  (atHd hM.right).cell rfl, ?_⟩
      refine ⟨⟨by omega, by have := own_pos g2; simp only; omega⟩, ?_⟩
      obtain ⟨_, ha, hc⟩ := (atSl hM.right).cells.at1 (l := q) (i := 0) (by simpa [own2] using g2)
      refine ⟨_, ha, ?_⟩
      refine ⟨_,  hc, ?_⟩
      refine ⟨fun g3 => ?_, fun g3 => ?_⟩
      · refine ⟨fun g4 => ?_, fun g4 => ?_⟩
        · refine ⟨fun g5 => ?_, fun g5 => ?_⟩
          · refine ⟨_, rfl, ?_⟩
            refine ⟨_, _, _,  (atHd hM.right).cell rfl, ?_⟩
            obtain ⟨_, hA, hT⟩ := hM.left
            refine ⟨(waits_ok (l := q) hA (by omega)).mono ?_⟩
            rintro e w2 ⟨_, _, rfl, hC, hU⟩
            replace hM := hM.upd hU
            clear hA hT hU
            refine ⟨_, _, _, rfl, ?_⟩
            refine ⟨(atHd hM.right).cell rfl, ?_⟩
            refine ⟨(ints_ok hC (atSl hM.right).cells (by omega)).mono ?_⟩
            rintro e w2 ⟨rfl, hU⟩
            replace hM := hM.upd hU
            clear hU
            refine ⟨_, rfl, ?_⟩
            refine ⟨fun g6 => ?_, fun g6 => ?_⟩
            · first | (simp only [own2] at g6; simp at g6; done) | (simp [own2] at g6; done) | (simp [own2] at g6; omega) | (rw [own1 (own_pos g2)] at g6; simp at g6; done) | (clear hM hB; cases q <;> simp_all [ownE]; done)
            · exact hB _ hM
          · first | (simp only [own2] at g5; simp at g5; done) | (simp [own2] at g5; done) | (simp [own2] at g5; omega) | (rw [own1 (own_pos g2)] at g5; simp at g5; done) | (clear hM hB; cases q <;> simp_all [ownE]; done)
        · refine ⟨_, rfl, ?_⟩
          refine ⟨_, _, _,  (atHd hM.right).cell rfl, ?_⟩
          obtain ⟨_, hA, hT⟩ := hM.left
          refine ⟨(waits_ok (l := q) hA (by omega)).mono ?_⟩
          rintro e w2 ⟨_, _, rfl, hC, hU⟩
          replace hM := hM.upd hU
          clear hA hT hU
          refine ⟨_, _, _, rfl, ?_⟩
          refine ⟨(atHd hM.right).cell rfl, ?_⟩
          refine ⟨(ints_ok hC (atSl hM.right).cells (by omega)).mono ?_⟩
          rintro e w2 ⟨rfl, hU⟩
          replace hM := hM.upd hU
          clear hU
          refine ⟨_, rfl, ?_⟩
          refine ⟨fun g7 => ?_, fun g7 => ?_⟩
          · first | (simp only [own2] at g7; simp at g7; done) | (simp [own2] at g7; done) | (simp [own2] at g7; omega) | (rw [own1 (own_pos g2)] at g7; simp at g7; done) | (clear hM hB; cases q <;> simp_all [ownE]; done)
          · exact hB _ hM
      · first | (simp only [own2] at g3; simp at g3; done) | (simp [own2] at g3; done) | (simp [own2] at g3; omega) | (rw [own1 (own_pos g2)] at g3; simp at g3; done) | (clear hM hB; cases q <;> simp_all [ownE]; done)
    · refine ⟨fun g8 => ?_, fun g8 => ?_⟩
      · refine ⟨fun g9 => ?_, fun g9 => ?_⟩
        · refine ⟨_, rfl, ?_⟩
          refine ⟨_, _, _,  (atHd hM.right).cell rfl, ?_⟩
          obtain ⟨_, hA, hT⟩ := hM.left
          refine ⟨(waits_ok (l := q) hA (by omega)).mono ?_⟩
          rintro e w2 ⟨_, _, rfl, hC, hU⟩
          replace hM := hM.upd hU
          clear hA hT hU
          refine ⟨_, _, _, rfl, ?_⟩
          refine ⟨(atHd hM.right).cell rfl, ?_⟩
          refine ⟨(ints_ok hC (atSl hM.right).cells (by omega)).mono ?_⟩
          rintro e w2 ⟨rfl, hU⟩
          replace hM := hM.upd hU
          clear hU
          refine ⟨_, rfl, ?_⟩
          refine ⟨fun g10 => ?_, fun g10 => ?_⟩
          · first | (simp only [own2] at g10; simp at g10; done) | (simp [own2] at g10; done) | (simp [own2] at g10; omega) | (rw [own1 (own_pos g2)] at g10; simp at g10; done) | (clear hM hB; cases q <;> simp_all [ownE]; done)
          · exact hB _ hM
        · first | (simp only [own2] at g9; simp at g9; done) | (simp [own2] at g9; done) | (simp [own2] at g9; omega) | (rw [own1 (own_pos g2)] at g9; simp at g9; done) | (clear hM hB; cases q <;> simp_all [ownE]; done)
      · refine ⟨_, rfl, ?_⟩
        refine ⟨_, _, _,  (atHd hM.right).cell rfl, ?_⟩
        obtain ⟨_, hA, hT⟩ := hM.left
        refine ⟨(waits_ok (l := q) hA (by omega)).mono ?_⟩
        rintro e w2 ⟨_, _, rfl, hC, hU⟩
        replace hM := hM.upd hU
        clear hA hT hU
        refine ⟨_, _, _, rfl, ?_⟩
        refine ⟨(atHd hM.right).cell rfl, ?_⟩
        refine ⟨(ints_ok hC (atSl hM.right).cells (by omega)).mono ?_⟩
        rintro e w2 ⟨rfl, hU⟩
        replace hM := hM.upd hU
        clear hU
        refine ⟨_, rfl, ?_⟩
        refine ⟨fun g11 => ?_, fun g11 => ?_⟩
        · first | (simp only [own2] at g11; simp at g11; done) | (simp [own2] at g11; done) | (simp [own2] at g11; omega) | (rw [own1 (own_pos g2)] at g11; simp at g11; done) | (clear hM hB; cases q <;> simp_all [ownE]; done)
        · exact hB _ hM
  · first | (simp only [own2] at g1; simp at g1; done) | (simp [own2] at g1; done) | (simp [own2] at g1; omega) | (rw [own1 (own_pos g2)] at g1; simp at g1; done) | (clear hM hB; cases q <;> simp_all [ownE]; done)

theorem lockSpins_ok {W : World} {p : Option Addr} {l : List (Int × Bool)} {c : Nat} (_ : ∀ x ∈ l, okIB x) (h : Cells W p (l.flatMap recIB)) (_ : l.length ≤ maxLen) :
    Calls Try.prog 4 #[.slice p l.length c] W fun e w' => e = .returned (.bool true) ∧ Upd no W w' := by
  refine u4 ?_
  rw [t4]
  refine ⟨fun w1 hN1 => ⟨fun w2 hN2 => ?_⟩⟩
  have hM : Mine W w1 (LkO W.heap.size) ([], none, 0) := Mine.new (Upd.refl _ _) (hN1.upd no) (Hd.nil hN1 rfl rfl rfl) (fun _ h => Nat.le_of_eq h.symm)
  replace hM : Mine W w2 (Star (LkO W.heap.size) (RkO w1.heap.size)) (([], none, 0), ([], none, 0)) := hM.add (hN2.upd no) (Hd.nil hN2 rfl rfl rfl) (fun _ h => Nat.le_of_eq h.symm)
  generalize w1.heap.size = b2 at hM ⊢
  generalize hb1 : W.heap.size = b1 at hM ⊢
  refine ⟨WP_loop okProg (M := M4) (σ := Nat × List Int) (fun x => e4_1 p l.length c (some ⟨b1, 0, none⟩) (some ⟨b2, 0, none⟩) (x.1 : Int))
    (fun x w => x.1 ≤ l.length ∧ x.1 ≤ 200 ∧ x.2.length ≤ x.1 ∧ x.2.Nodup ∧ ∃ y1 y2, Mine W w (Star (LkO b1) (RkO b2)) ((x.2, y1), (x.2, y2))) (fun x _ => l.length - x.1) (0, []) ⟨rfl, rfl, rfl, rfl, trivial⟩
    ⟨by simp, by simp, by simp, by simp, _, _, hM⟩ ?_⟩
  clear hM hN1 hN2
  rintro ⟨i, q⟩ w ⟨h1, h2, hl, hn, y1, y2, hM⟩
  simp only at h1 h2 hl hn hM ⊢
  have hgo : CutD Try.prog M4 c4_0 e4_0 w (k4_0 fun e w' => e = .returned (.bool true) ∧ Upd no W w') := by
    refine CutD.mk ?_
    rw [t4_0]
    refine ⟨(known_ok w).mono ?_⟩
    rintro e w' ⟨rfl, hU⟩
    exact ⟨_, rfl, rfl, hM.U.and hU⟩
  rw [t4_1]
  refine ⟨fun g1 => ?_, fun g1 => ?_⟩
  · refine ⟨fun g2 => ?_, fun g2 => ?_⟩
    · have hi : i < l.length := by simpa using g1
      have hi2 : i < 200 := by simp at g2; omega
      refine ⟨⟨by omega, by omega⟩, ?_⟩
      obtain ⟨_, ha, hc⟩ := (h.no hM.U).atk recIB_len (by decide) hi
      cases ha
      refine ⟨_, rfl, ?_⟩
      refine ⟨_,  hc 0 _ rfl, ?_⟩
      refine ⟨_,  hc 1 _ rfl, ?_⟩
      refine ⟨fun w2 hN => ?_⟩
      replace hM := hM.add (hN.upd no) (Rw.new (enc := recIB) (s := (0, false)) hN rfl) (fun _ h => Nat.le_of_eq h.symm)
      obtain ⟨_, hA, hT⟩ := hM.right
      refine hA.blk.wr0 (by simp [recIB]) fun w3 hW => ?_
      replace hM := hT _ (l[i]) (hA.turned hW.U hW.blk')
      clear hA hT hW
      refine ⟨_,  (atBlk hM.right).cell rfl, ?_⟩
      refine ⟨fun g3 => ?_, fun g3 => ?_⟩
      · intro w1 q1 q2 q3 q4
        replace hM := hM.upd (Upd.same no q1 q2 q3 q4)
        refine ⟨_,  (atBlk hM.right).cell rfl, ?_⟩
        refine ⟨_,  (atBlk hM.right).cell rfl, ?_⟩
        obtain ⟨_, hA, hT⟩ := hM.ll
        refine ⟨(leave_ok hA _).mono ?_⟩
        rintro e w2 ⟨rfl, _, hU⟩
        replace hM := hT _ _ hU
        clear hA hT hU
        refine ⟨_, rfl, ?_⟩
        refine ⟨(atBlk hM.right).cell rfl, ?_⟩
        obtain ⟨_, hA, hT⟩ := hM.lr
        refine ⟨(rleave_ok (l := q) hA (by omega) hn _).mono ?_⟩
        rintro e w2 ⟨rfl, _, hU⟩
        replace hM := hT _ _ hU
        clear hA hT hU
        refine ⟨_, rfl, ?_⟩
        refine ⟨fun g4 => ?_, fun g4 => ?_⟩
        · simp at g4
        · refine r4_3 hM.drop (by have := leave_len q l[i].1; simp only; omega) fun w4 hM => ?_
          exact ⟨(i + 1, leaveL q l[i].1), ⟨rfl, rfl, rfl, by rw [w64 (by omega)]; rfl, trivial⟩, ⟨by simp only; omega, by simp only; omega, by have := leave_len q l[i].1; simp only; omega, leave_wf (c := l[i].1) hn, _, _, hM⟩, by simp only; omega⟩
      · intro w1 q1 q2 q3 q4
        replace hM := hM.upd (Upd.same no q1 q2 q3 q4)
        refine ⟨_,  (atBlk hM.right).cell rfl, ?_⟩
        refine ⟨_,  (atBlk hM.right).cell rfl, ?_⟩
        obtain ⟨_, hA, hT⟩ := hM.ll
        refine ⟨(take_ok (l := q) hA (by omega) _).mono ?_⟩
        rintro e w2 ⟨rfl, _, hU⟩
        replace hM := hT _ _ hU
        clear hA hT hU
        refine ⟨_, rfl, ?_⟩
        refine ⟨(atBlk hM.right).cell rfl, ?_⟩
        obtain ⟨_, hA, hT⟩ := hM.lr
        refine ⟨(rtake_ok (l := q) hA (by omega) _).mono ?_⟩
        rintro e w2 ⟨rfl, _, hU⟩
        replace hM := hT _ _ hU
        clear hA hT hU
        refine ⟨_, rfl, ?_⟩
        refine ⟨fun g5 => ?_, fun g5 => ?_⟩
        · simp at g5
        · refine r4_3 hM.drop (by have := take_len q l[i].1; simp only; omega) fun w4 hM => ?_
          exact ⟨(i + 1, takeL q l[i].1), ⟨rfl, rfl, rfl, by rw [w64 (by omega)]; rfl, trivial⟩, ⟨by simp only; omega, by simp only; omega, by have := take_len q l[i].1; simp only; omega, take_wf (c := l[i].1) hn, _, _, hM⟩, by simp only; omega⟩
    · exact hgo
  · exact hgo
end Go.Dav
