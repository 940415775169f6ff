/- Threads that are played with. -/
import Derived.Test.YtkonlnfdmmnbgaaDoorP11
set_option linter.unusedSimpArgs false
set_option linter.unusedVariables false
namespace Go.Dav
open Go.Proofs
theorem tlE_le (x : TX) (h : x.2.length = 32) : (tlE x).length ≤ 32 := by unfold tlE; have := outL_le (okOf x.2) x.2.length; omega
theorem threadPlays_ok {W : World} (hTab : Tab W) {m : Int} {p : Option Addr} {l : List (Int × Int × Int × BV × Int × Bool)} {c : Nat} (_ : (Lit.int .i64 m).wf = true) (_ : ∀ x ∈ l, okIIIUIB x) (h : Cells W p (l.flatMap recIIIUIB)) (_ : l.length ≤ maxLen) :
    Calls Tryd.prog 3 #[.int .i64 m, .slice p l.length c] W fun e w' => e = .returned (.bool true) ∧ Upd no W w' := by
  refine u3 ?_
  rw [t3]
  refine ⟨(tnew_ok m W).mono ?_⟩
  rintro e w1 (⟨hno, rfl, rfl⟩ | ⟨hyes, b1, F1, rfl, hQ, hU, hF⟩)
  · refine ⟨_, _, rfl, ⟨(rtnew_ok m w1).mono ?_⟩⟩
    rintro e w2 (⟨_, rfl, rfl⟩ | ⟨h, _⟩)
    · refine ⟨_, _, rfl, fun _ => ⟨fun g => by simp at g, fun _ => ⟨fun _ => ⟨(known_ok hTab).mono ?_⟩, fun g => by simp at g⟩⟩, fun g => by simp at g⟩
      rintro e w3 ⟨rfl, hU3⟩
      exact ⟨_, rfl, rfl, hU3⟩
    · exact absurd h hno
  · have hM : Mine W w1 (ThO b1) (newT m) := Mine.new (Upd.refl _ _) hU hQ hF
    refine ⟨_, _, rfl, ⟨(rtnew_ok m w1).mono ?_⟩⟩
    rintro e w2 (⟨h, _⟩ | ⟨_, b2, F2, rfl, hQ2, hU2, hF2⟩)
    · exact absurd hyes h
    · replace hM : Mine W w2 (Star (ThO b1) (RtO b2)) (newT m, newT m) := hM.add hU2 hQ2 hF2
      clear hU hQ hF hU2 hQ2 hF2
      refine ⟨_, _, rfl, fun _ => ⟨fun g => by simp at g, fun _ => ⟨fun g => by simp at g, fun _ => ?_⟩⟩, fun g => by simp at g⟩
      refine ⟨WP_loop okProg (M := M3) (σ := Nat × TX) (fun x => e3_1 p l.length c (some ⟨b1, 0, none⟩) (some ⟨b2, 0, none⟩) (x.1 : Int))
        (fun x w => x.1 ≤ l.length ∧ x.1 ≤ 150 ∧ Mine W w (Star (ThO b1) (RtO b2)) (x.2, x.2)) (fun x _ => l.length - x.1) (0, newT m) ⟨rfl, rfl, rfl, rfl, trivial⟩ ⟨by simp, by simp, hM⟩ ?_⟩
      clear hM
      rintro ⟨i, x⟩ w ⟨h1, h2, hM⟩
      simp only at h1 h2 hM ⊢
      have hgo : CutD Tryd.prog M3 c3_0 e3_0 w (k3_0 fun e w' => e = .returned (.bool true) ∧ Upd no W w') := by
        refine CutD.mk ?_
        rw [t3_0]
        refine ⟨(known_ok (hTab.no hM.U)).mono ?_⟩
        rintro e w' ⟨rfl, hU⟩
        exact ⟨_, rfl, rfl, hM.U.and hU⟩
      rw [t3_1]
      refine ⟨fun g1 => ⟨fun g2 => ?_, fun g2 => hgo⟩, fun g1 => hgo⟩
      have hi : i < l.length := by simpa using g1
      have hi2 : i < 150 := by simp at g2; omega
      obtain ⟨a, rfl, hc⟩ := (h.no hM.U).atk recIIIUIB_len (by omega) hi
      refine ⟨⟨by omega, by omega⟩, a, rfl, _, hc 0 _ rfl, _, hc 1 _ rfl, _, hc 2 _ rfl, _, hc 3 _ rfl, _, hc 4 _ rfl, _, hc 5 _ rfl, ⟨(do_ok (a := l[i]) hTab hM.toNon).mono ?_⟩⟩
      clear hM hc hgo
      rintro e w2 ⟨rfl, y, _, hM⟩
      replace hM := hM.drop
      simp only at hM
      have go : ∀ w', Mine W w' (Star (ThO b1) (RtO b2)) (y, y) → ∃ s : Nat × TX, CoversL (e3_1 (some a) l.length c (some ⟨b1, 0, none⟩) (some ⟨b2, 0, none⟩) (IntKind.wrap .i64 ((i : Int) + 1))) (e3_1 (some a) l.length c (some ⟨b1, 0, none⟩) (some ⟨b2, 0, none⟩) (s.1 : Int)) ∧ (s.1 ≤ l.length ∧ s.1 ≤ 150 ∧ Mine W w' (Star (ThO b1) (RtO b2)) (s.2, s.2)) ∧ l.length - s.1 < l.length - i := fun w' hM =>
        ⟨(i + 1, y), ⟨rfl, rfl, rfl, by rw [w64 (by omega)]; rfl, trivial⟩, ⟨by simp only; omega, by simp only; omega, hM⟩, by simp only; omega⟩
      have hl32 : y.2.length = 32 := by obtain ⟨_, ⟨_, _, hl⟩, _⟩ := hM.right; exact hl
      refine ⟨_, rfl, fun _ => ?_, fun g => by simp at g⟩
      obtain ⟨_, hA, hT⟩ := hM.left
      refine ⟨(tlistC_ok hA).mono ?_⟩
      rintro e w3 ⟨p1, c1, rfl, hC0, hU⟩
      replace hM := hM.upd hU
      clear hA hT hU
      obtain ⟨_, hA, hT⟩ := hM.right
      refine ⟨_, _, _, rfl, ⟨(rtlist_ok hA).mono ?_⟩⟩
      rintro e w4 ⟨p2, c2, rfl, hL⟩
      replace hM := hM.upd hL.U
      replace hC0 := hC0.no hL.U
      clear hA hT
      refine ⟨_, _, _, rfl, ⟨(ints_ok hC0 hL.S.cells (Nat.le_trans (tlE_le y hl32) (by omega))).mono ?_⟩⟩
      rintro e w5 ⟨rfl, hU⟩
      replace hM := hM.upd hU
      clear hU hC0 hL
      refine ⟨_, rfl, fun g => by simp at g, fun _ => ?_⟩
      obtain ⟨_, ha, hc⟩ := (h.no hM.U).atk recIIIUIB_len (by omega) hi
      cases ha
      obtain ⟨_, hA, hT⟩ := hM.left
      refine ⟨⟨by omega, by omega⟩, a, rfl, _, hc 1 _ rfl, ⟨(get_ok hA l[i].2.1).mono ?_⟩⟩
      rintro e w6 ⟨rfl, hU⟩
      replace hM := hM.upd hU
      clear hA hT hU hc
      refine ⟨_, _, _, _, _, _, _, rfl, ⟨fun w7 hN => ?_⟩⟩
      replace hM := hM.add (hN.upd no) (Rw.new (enc := thE) (s := ((0 : Int), (0 : BV), (0 : Int), false, false, (0 : Int))) hN rfl) (fun _ h => Nat.le_of_eq h.symm)
      generalize w6.heap.size = b3 at hM hN ⊢
      clear hN
      obtain ⟨_, hA, hT⟩ := hM.right
      refine hA.blk.wr0 (by simp [thE]) fun w8 hW => ?_
      replace hM : Mine W w8 (Star (Star (ThO b1) (RtO b2)) (Rw b3 40 thE)) ((y, y), (getE y l[i].2.1).1) := hT _ _ (hA.turned (s' := (getE y l[i].2.1).1) hW.U hW.blk')
      clear hA hT hW
      obtain ⟨_, ha, hc⟩ := (h.no hM.U).atk recIIIUIB_len (by omega) hi
      cases ha
      obtain ⟨_, hA, hT⟩ := hM.lr
      refine ⟨⟨by omega, by omega⟩, a, rfl, _, hc 1 _ rfl, ⟨(rfind_ok hA l[i].2.1).mono ?_⟩⟩
      rintro e w9 ⟨rfl, hcase⟩
      simp only at hcase
      clear hA hT hc
      rcases hcase with ⟨k1, rfl⟩ | ⟨k, t, hk, hn, hs, k1, rfl⟩
      · have hg : getE y l[i].2.1 = ((0, 0, 0, false, false, 0), 4) := by unfold getE; rw [k1]
        rw [hg] at hM ⊢
        refine ⟨_, rfl, fun w10 q1 q2 q3 q4 => ?_⟩
        replace hM := hM.upd (Upd.same no q1 q2 q3 q4)
        have hB := atBlk hM.right
        refine ⟨fun _ => ⟨fun _ => ⟨fun _ => ?_, fun g => by simp at g⟩, fun g => by simp at g⟩, fun g => by simp at g⟩
        refine ⟨_, hB.cell rfl, _, hB.cell rfl, _, hB.cell rfl, _, hB.cell rfl, _, hB.cell rfl, _, hB.cell rfl, ⟨(same_ok 0 (0, 0, 0, false, false, 0) w10).mono ?_⟩⟩
        rintro e w11 ⟨rfl, hU⟩
        exact ⟨_, rfl, fun _ => ⟨fun g => by simp at g, fun _ => go _ (hM.upd hU).drop⟩, fun g => by simp at g⟩
      · have hg : getE y l[i].2.1 = (t, 0) := by unfold getE; rw [k1]
        rw [hg] at hM ⊢
        refine ⟨_, rfl, fun w10 q1 q2 q3 q4 => ?_⟩
        replace hM := hM.upd (Upd.same no q1 q2 q3 q4)
        have hB := atBlk hM.right
        obtain ⟨_, hA, hT⟩ := hM.lr
        obtain ⟨a4, c4, hB4, hc4, _⟩ := hA.at hk hs
        have hp := pos_lt hk hs
        refine ⟨fun _ => ⟨fun g => absurd (of_decide_eq_true g) (by omega), fun _ => ⟨fun _ => ?_, fun g => absurd g (by simp)⟩⟩, fun g => absurd g (by simp)⟩
        refine ⟨_, hB.cell rfl, _, hB.cell rfl, _, hB.cell rfl, _, hB.cell rfl, _, hB.cell rfl, _, hB.cell rfl, _, rfl, _, _, _, hB4.cell rfl, ⟨by omega, by simp only; omega⟩, a4, rfl, _, hc4 0 _ rfl, _, hc4 1 _ rfl, _, hc4 2 _ rfl, _, hc4 3 _ rfl, _, hc4 4 _ rfl, _, hc4 5 _ rfl, _, hc4 6 _ rfl, ⟨(same_ok _ t w10).mono ?_⟩⟩
        rintro e w11 ⟨rfl, hU⟩
        exact ⟨_, rfl, fun g => by simp at g, fun _ => go _ (hM.upd hU).drop⟩
end Go.Dav
