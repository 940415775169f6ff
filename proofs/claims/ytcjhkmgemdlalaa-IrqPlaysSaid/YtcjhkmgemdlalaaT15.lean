/- The statement on interrupts that are played with. -/
import Derived.Test.YtcjhkmgemdlalaaR15
set_option linter.unusedSimpArgs false
set_option linter.unusedVariables false
namespace Go.Dav
open Go.Proofs

theorem irqPlays_ok {W : World} {cpus : Int} {p : Option Addr} {l : List (Int × Int × BV)} {c : Nat} (_ : (Lit.int .i64 cpus).wf = true) (_ : ∀ x ∈ l, okIIU x) (h : Cells W p (l.flatMap recIIU)) (_ : l.length ≤ maxLen) :
    Calls Try.prog 4 #[.int .i64 cpus, .slice p l.length c] W fun e w' => e = .returned (.bool true) ∧ Upd no W w' := by
  refine u4 ?_
  rw [t4]
  refine ⟨(new_ok cpus W).mono ?_⟩
  rintro e w1 (⟨hno, rfl, rfl⟩ | ⟨hyes, b1, F1, rfl, hQ, hU, hF⟩)
  · refine ⟨_, _, rfl, ⟨(rnew_ok cpus w1).mono ?_⟩⟩
    rintro e w2 (⟨_, rfl, rfl⟩ | ⟨h, _⟩)
    · refine ⟨_, _, rfl, fun _ => ⟨fun g => by simp at g, fun _ => ⟨fun _ => ⟨(known_ok _).mono ?_⟩, fun g => by simp at g⟩⟩, fun g => by simp at g⟩
      rintro e w3 ⟨rfl, hU⟩
      exact ⟨_, rfl, rfl, hU⟩
    · exact absurd h hno
  · have hM : Mine W w1 (IrO b1) (cpus, List.replicate 16 i0) := Mine.new (Upd.refl _ _) hU hQ hF
    refine ⟨_, _, rfl, ⟨(rnew_ok cpus w1).mono ?_⟩⟩
    rintro e w2 (⟨h, _⟩ | ⟨_, b2, F2, y, rfl, hQ2, hU2, hF2⟩)
    · exact absurd hyes h
    · replace hM : Mine W w2 (Star (IrO b1) (QiO b2)) ((cpus, List.replicate 16 i0), ((cpus, List.replicate 16 i0), y)) := hM.add hU2 hQ2 hF2
      clear hU hQ hF hU2 hQ2 hF2
      refine ⟨_, _, rfl, fun _ => ⟨fun g => by simp at g, fun _ => ⟨fun g => by simp at g, fun _ => ?_⟩⟩, fun g => by simp at g⟩
      refine ⟨WP_loop okProg (M := M4) (σ := Nat × IrS) (fun x => e4_1 p l.length c (some ⟨b1, 0, none⟩) (some ⟨b2, 0, none⟩) (x.1 : Int))
        (fun x w => x.1 ≤ l.length ∧ x.1 ≤ 150 ∧ x.2.2.length = 16 ∧ ∃ y, Mine W w (Star (IrO b1) (QiO b2)) (x.2, (x.2, y))) (fun x _ => l.length - x.1) (0, (cpus, List.replicate 16 i0)) ⟨rfl, rfl, rfl, rfl, trivial⟩
        ⟨by simp, by simp, by simp, _, hM⟩ ?_⟩
      clear hM y
      rintro ⟨i, s⟩ w ⟨h1, h2, hl, y, hM⟩
      simp only at h1 h2 hl hM ⊢
      have hgo : CutD Try.prog M4 c4_0 e4_0 w (k4_0 fun e w' => e = .returned (.bool true) ∧ Upd no W w') := by
        refine CutD.mk ?_
        rw [t4_0]
        refine ⟨(known_ok _).mono ?_⟩
        rintro e w9 ⟨rfl, hU9⟩
        exact ⟨_, rfl, rfl, hM.U.and hU9⟩
      rw [t4_1]
      refine ⟨fun g1 => ⟨fun g2 => ?_, fun _ => hgo⟩, fun _ => hgo⟩
      clear hgo
      have hi : i < l.length := by simpa using g1
      have hi2 : i < 150 := by simp at g2; omega
      obtain ⟨_, ha, hc⟩ := (h.no hM.U).atk recIIU_len (by decide) hi
      cases ha
      refine ⟨⟨by omega, by omega⟩, _, rfl, _, hc 0 _ rfl, _, hc 1 _ rfl, _, hc 2 _ rfl, ⟨fun w2 hN => ?_⟩⟩
      replace hM := hM.add (hN.upd no) (Rw.new (enc := recIIU) (s := (0, 0, 0)) hN rfl) (fun _ h => Nat.le_of_eq h.symm)
      obtain ⟨_, hA, hT⟩ := hM.right
      refine hA.blk.wr0 (by simp [recIIU]) fun w3 hW => ?_
      replace hM := hT _ (l[i]) (hA.turned hW.U hW.blk')
      clear hA hT hW
      intro w4 q1 q2 q3 q4
      replace hM := hM.upd (Upd.same no q1 q2 q3 q4)
      refine ⟨_, (atBlk hM.right).cell rfl, _, (atBlk hM.right).cell rfl, _, (atBlk hM.right).cell rfl, ⟨(do_ok (a := l[i]) hM hl).mono ?_⟩⟩
      rintro e w5 ⟨rfl, s2, hM2⟩
      clear hM
      have hl2 : s2.2.length = 16 := hM2.ll.choose_spec.1.2
      refine ⟨_, rfl, fun _ => ?_, fun g => by simp at g⟩
      have hA := hM2.ll.choose_spec.1
      have hA2 := hM2.lr.choose_spec.1
      refine ⟨_, (atBlk hM2.right).cell rfl, _, (atBlk hM2.right).cell rfl, ⟨(ready_ok hA _).mono ?_⟩⟩
      rintro e w6 ⟨rfl, rfl⟩
      refine ⟨_, rfl, (atBlk hM2.right).cell rfl, ⟨(rready_ok hA2 hl2 _).mono ?_⟩⟩
      rintro e w6 ⟨rfl, rfl⟩
      refine ⟨_, rfl, fun _ => ?_, fun g => by simp at g⟩
      refine ⟨(listC_ok hA).mono ?_⟩
      rintro e w7 ⟨p1, d1, rfl, hC, hU⟩
      have hM3 := hM2.upd hU
      clear hM2 hA hA2
      have hA2 := hM3.lr.choose_spec.1
      refine ⟨_, _, _, rfl, ⟨(rlist_ok hA2 hl2).mono ?_⟩⟩
      rintro e w8 ⟨p2, d2, rfl, hL⟩
      have hM4 := hM3.upd hL.U
      clear hA2 hM3
      refine ⟨_, _, _, rfl, ⟨(ints_ok (hC.no hL.U) hL.S.cells (Nat.le_trans (upto_length _ _) (by decide))).mono ?_⟩⟩
      rintro e w9 ⟨rfl, hU⟩
      have hM5 := hM4.upd hU
      clear hM4
      refine ⟨_, rfl, fun g => by simp at g, fun _ => ⟨_, (atBlk hM5.right).cell rfl, ⟨(get_ok hM5.ll.choose_spec.1 _).mono ?_⟩⟩⟩
      rintro e w10 ⟨q, rfl, hq, hU⟩
      have hM6 := hM5.upd hU
      clear hM5
      refine ⟨_, _, _, _, _, rfl, ⟨fun w11 hN => ?_⟩⟩
      have hM7 := hM6.add (hN.upd no) (Rw.new (enc := iqE) (s := i0) hN rfl) (fun _ h => Nat.le_of_eq h.symm)
      clear hM6
      obtain ⟨_, hA, hT⟩ := hM7.right
      refine hA.blk.wr0 (by simp [iqE]) fun w12 hW => ?_
      have hM8 := hT _ q (hA.turned hW.U hW.blk')
      clear hA hT hW hM7
      intro w13 q1 q2 q3 q4
      have hM9 := hM8.upd (Upd.same no q1 q2 q3 q4)
      clear hM8
      have hQ := hM9.llr.choose_spec.1
      refine ⟨_, (atBlk hM9.lr).cell rfl, ⟨(is_ok hQ hl2 _).mono ?_⟩⟩
      rintro e w14 ⟨rfl, rfl⟩
      refine ⟨_, rfl, fun _ => ⟨_, (atBlk hM9.lr).cell rfl, ⟨(is_ok hQ hl2 _).mono ?_⟩⟩, fun g => ?_⟩
      · rintro e w14 ⟨rfl, rfl⟩
        refine ⟨_, rfl, fun g => ?_, fun g => ?_⟩
        · have hn : ¬ nout l[i].2.1 := by simpa using g
          obtain rfl := hq hn
          obtain ⟨k, hk⟩ : ∃ k : Nat, l[i].2.1 = k := ⟨l[i].2.1.toNat, by unfold nout at hn; omega⟩
          have hk16 : k < 16 := by unfold nout at hn; omega
          obtain ⟨a, ha, hc⟩ := hQ.at hl2 hk16
          have hc' : ∀ (j : Nat) v, (iqE (gq s2 l[i].2.1))[j]? = some v → w14.cell? ((a.add (l[i].2.1.toNat * 4)).add j) = some v := by rw [hk]; exact hc
          refine ⟨_, (atBlk hM9.right).cell rfl, _, (atBlk hM9.right).cell rfl, _, (atBlk hM9.right).cell rfl, _, (atBlk hM9.right).cell rfl, _, rfl, _, _, _, (atHd hM9.llr).cell rfl, _, (atBlk hM9.lr).cell rfl, ⟨by show 0 ≤ l[i].2.1; rw [hk]; omega, by show l[i].2.1 < ((s2.2.length : Nat) : Int); rw [hk, hl2]; omega⟩, a, ha, _, hc' 0 _ rfl, _, hc' 1 _ rfl, _, hc' 2 _ rfl, _, hc' 3 _ rfl, ⟨(same_ok (gq s2 l[i].2.1) w14).mono ?_⟩⟩
          rintro e w15 ⟨rfl, hU⟩
          have hM10 := hM9.upd hU
          clear hM9 hQ
          have hM9 := hM10
          have hQ := hM9.llr.choose_spec.1
          refine ⟨_, rfl, fun _ => ⟨_, (atBlk hM9.lr).cell rfl, ⟨(is_ok hQ hl2 _).mono ?_⟩⟩, fun g => by simp at g⟩
          rintro e w16 ⟨rfl, rfl⟩
          refine ⟨_, rfl, fun g => by simp [hn] at g, fun _ => ?_⟩
          exact ⟨(i + 1, s2), ⟨rfl, rfl, rfl, by rw [w64 (by omega)]; rfl, trivial⟩, ⟨by simp only; omega, by simp only; omega, hl2, _, hM9.drop.drop⟩, by simp only; omega⟩
        · have hn : nout l[i].2.1 := by simpa using g
          refine ⟨_, (atBlk hM9.lr).cell rfl, ⟨(is_ok hQ hl2 _).mono ?_⟩⟩
          rintro e w16 ⟨rfl, rfl⟩
          refine ⟨_, rfl, fun _ => ⟨fun g => by simp [hn] at g, fun _ => ?_⟩, fun g => by simp [hn] at g⟩
          exact ⟨(i + 1, s2), ⟨rfl, rfl, rfl, by rw [w64 (by omega)]; rfl, trivial⟩, ⟨by simp only; omega, by simp only; omega, hl2, _, hM9.drop.drop⟩, by simp only; omega⟩
      · by_cases hn : nout l[i].2.1 <;> simp [hn] at g
end Go.Dav
