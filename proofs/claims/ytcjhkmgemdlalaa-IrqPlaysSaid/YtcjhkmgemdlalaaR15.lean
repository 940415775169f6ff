/- The statement on interrupts that are played with: what its helpers come to. -/
import Derived.Test.YtcjhkmgemdlalaaQ15
import Derived.Test.YtcjhkmgemdlalaaRIrq15
set_option linter.unusedSimpArgs false
set_option linter.unusedVariables false
namespace Go.Dav
open Go.Proofs

theorem Mine.lll {α β γ δ : Type} {A : Ob α} {B : Ob β} {C : Ob γ} {D : Ob δ} [Frame A] [Frame B] [Frame C] [Frame D] {W w : World} {x : ((α × β) × γ) × δ} (h : Mine W w (Star (Star (Star A B) C) D) x) :
    ∃ F1, A w F1 x.1.1.1 ∧ ∀ w' s', Turn A w w' F1 s' → Mine W w' (Star (Star (Star A B) C) D) (((s', x.1.1.2), x.1.2), x.2) := by
  obtain ⟨F, h1, h2⟩ := h.left
  obtain ⟨F2, k1, k2⟩ := h1.left
  obtain ⟨F3, r1, r2⟩ := k1.left
  exact ⟨F3, r1, fun w' s' k => h2 _ _ (k2 _ _ (r2 w' s' k))⟩
theorem Mine.llr {α β γ δ : Type} {A : Ob α} {B : Ob β} {C : Ob γ} {D : Ob δ} [Frame A] [Frame B] [Frame C] [Frame D] {W w : World} {x : ((α × β) × γ) × δ} (h : Mine W w (Star (Star (Star A B) C) D) x) :
    ∃ F1, B w F1 x.1.1.2 ∧ ∀ w' s', Turn B w w' F1 s' → Mine W w' (Star (Star (Star A B) C) D) (((x.1.1.1, s'), x.1.2), x.2) := by
  obtain ⟨F, h1, h2⟩ := h.left
  obtain ⟨F2, k1, k2⟩ := h1.left
  obtain ⟨F3, r1, r2⟩ := k1.right
  exact ⟨F3, r1, fun w' s' k => h2 _ _ (k2 _ _ (r2 w' s' k))⟩

theorem do_ok {W w : World} {b1 b2 b3 : Nat} {s : IrS} {y : Option Addr × Nat} {a0 a : Int × Int × BV} (hM : Mine W w (Star (Star (IrO b1) (QiO b2)) (Rw b3 38 recIIU)) ((s, (s, y)), a0)) (hl : s.2.length = 16) :
    Calls Try.prog 15 #[.pointer (some ⟨b1, 0, none⟩), .pointer (some ⟨b2, 0, none⟩), .agg #[.int .i64 a.1, .int .i64 a.2.1, .int .u64 (mi a.2.2)]] w fun e w' =>
      e = .returned (.bool true) ∧ ∃ s', Mine W w' (Star (Star (IrO b1) (QiO b2)) (Rw b3 38 recIIU)) ((s', (s', y)), a0) := by
  refine u15 ?_
  rw [t15]
  refine ⟨fun w2 hN => ?_⟩
  replace hM := hM.add (hN.upd no) (Rw.new (enc := recIIU) (s := a) hN rfl) (fun _ h => Nat.le_of_eq h.symm)
  refine ⟨_,  (atBlk hM.right).cell rfl, ?_⟩
  refine ⟨by decide, ?_⟩
  refine ⟨fun g1 => ?_, fun g1 => ?_⟩
  · intro w1 q1 q2 q3 q4
    replace hM := hM.upd (Upd.same no q1 q2 q3 q4)
    refine ⟨_,  (atBlk hM.right).cell rfl, ?_⟩
    refine ⟨_,  (atBlk hM.right).cell rfl, ?_⟩
    refine ⟨_,  (atBlk hM.right).cell rfl, ?_⟩
    refine ⟨_,  (atBlk hM.right).cell rfl, ?_⟩
    obtain ⟨_, hA, hT⟩ := hM.lll
    refine ⟨(request_ok hA _ _).mono ?_⟩
    rintro e w2 ⟨rfl, hU⟩
    replace hM := hT _ _ hU
    clear hA hT hU
    refine ⟨_, rfl, ?_⟩
    refine ⟨(atBlk hM.right).cell rfl, ?_⟩
    refine ⟨(atBlk hM.right).cell rfl, ?_⟩
    obtain ⟨_, hA, hT⟩ := hM.llr
    refine ⟨(rrequest_ok hA hl _ _).mono ?_⟩
    rintro e w2 ⟨rfl, hU⟩
    replace hM := hT _ _ hU
    clear hA hT hU
    refine ⟨_, rfl, ?_⟩
    exact ⟨by rw [beq_self_eq_true], _, hM.drop⟩
  · refine ⟨fun g2 => ?_, fun g2 => ?_⟩
    · intro w1 q1 q2 q3 q4
      replace hM := hM.upd (Upd.same no q1 q2 q3 q4)
      refine ⟨_,  (atBlk hM.right).cell rfl, ?_⟩
      refine ⟨_,  (atBlk hM.right).cell rfl, ?_⟩
      obtain ⟨_, hA, hT⟩ := hM.lll
      refine ⟨(free_ok hA _).mono ?_⟩
      rintro e w2 ⟨rfl, hU⟩
      replace hM := hT _ _ hU
      clear hA hT hU
      refine ⟨_, rfl, ?_⟩
      refine ⟨(atBlk hM.right).cell rfl, ?_⟩
      obtain ⟨_, hA, hT⟩ := hM.llr
      refine ⟨(rfree_ok hA hl _).mono ?_⟩
      rintro e w2 ⟨rfl, hU⟩
      replace hM := hT _ _ hU
      clear hA hT hU
      refine ⟨_, rfl, ?_⟩
      exact ⟨by rw [beq_self_eq_true], _, hM.drop⟩
    · refine ⟨fun g3 => ?_, fun g3 => ?_⟩
      · intro w1 q1 q2 q3 q4
        replace hM := hM.upd (Upd.same no q1 q2 q3 q4)
        refine ⟨_,  (atBlk hM.right).cell rfl, ?_⟩
        refine ⟨_,  (atBlk hM.right).cell rfl, ?_⟩
        refine ⟨_,  (atBlk hM.right).cell rfl, ?_⟩
        refine ⟨_,  (atBlk hM.right).cell rfl, ?_⟩
        obtain ⟨_, hA, hT⟩ := hM.lll
        refine ⟨(aim_ok hA _ _).mono ?_⟩
        rintro e w2 ⟨rfl, hU⟩
        replace hM := hT _ _ hU
        clear hA hT hU
        refine ⟨_, rfl, ?_⟩
        refine ⟨(atBlk hM.right).cell rfl, ?_⟩
        refine ⟨(atBlk hM.right).cell rfl, ?_⟩
        obtain ⟨_, hA, hT⟩ := hM.llr
        refine ⟨(raim_ok hA hl _ _).mono ?_⟩
        rintro e w2 ⟨rfl, hU⟩
        replace hM := hT _ _ hU
        clear hA hT hU
        refine ⟨_, rfl, ?_⟩
        exact ⟨by rw [beq_self_eq_true], _, hM.drop⟩
      · refine ⟨fun g4 => ?_, fun g4 => ?_⟩
        · intro w1 q1 q2 q3 q4
          replace hM := hM.upd (Upd.same no q1 q2 q3 q4)
          refine ⟨_,  (atBlk hM.right).cell rfl, ?_⟩
          refine ⟨_,  (atBlk hM.right).cell rfl, ?_⟩
          obtain ⟨_, hA, hT⟩ := hM.lll
          refine ⟨(hush_ok hA _).mono ?_⟩
          rintro e w2 ⟨rfl, hU⟩
          replace hM := hT _ _ hU
          clear hA hT hU
          refine ⟨_, rfl, ?_⟩
          refine ⟨(atBlk hM.right).cell rfl, ?_⟩
          obtain ⟨_, hA, hT⟩ := hM.llr
          refine ⟨(rhush_ok hA hl _ _).mono ?_⟩
          rintro e w2 ⟨rfl, hU⟩
          replace hM := hT _ _ hU
          clear hA hT hU
          refine ⟨_, rfl, ?_⟩
          exact ⟨by rw [beq_self_eq_true], _, hM.drop⟩
        · refine ⟨fun g5 => ?_, fun g5 => ?_⟩
          · intro w1 q1 q2 q3 q4
            replace hM := hM.upd (Upd.same no q1 q2 q3 q4)
            refine ⟨_,  (atBlk hM.right).cell rfl, ?_⟩
            refine ⟨_,  (atBlk hM.right).cell rfl, ?_⟩
            obtain ⟨_, hA, hT⟩ := hM.lll
            refine ⟨(unhush_ok hA _).mono ?_⟩
            rintro e w2 ⟨rfl, hU⟩
            replace hM := hT _ _ hU
            clear hA hT hU
            refine ⟨_, rfl, ?_⟩
            refine ⟨(atBlk hM.right).cell rfl, ?_⟩
            obtain ⟨_, hA, hT⟩ := hM.llr
            refine ⟨(rhush_ok hA hl _ _).mono ?_⟩
            rintro e w2 ⟨rfl, hU⟩
            replace hM := hT _ _ hU
            clear hA hT hU
            refine ⟨_, rfl, ?_⟩
            exact ⟨by rw [beq_self_eq_true], _, hM.drop⟩
          · refine ⟨fun g6 => ?_, fun g6 => ?_⟩
            · intro w1 q1 q2 q3 q4
              replace hM := hM.upd (Upd.same no q1 q2 q3 q4)
              refine ⟨_,  (atBlk hM.right).cell rfl, ?_⟩
              refine ⟨_,  (atBlk hM.right).cell rfl, ?_⟩
              obtain ⟨_, hA, hT⟩ := hM.lll
              refine ⟨(raise_ok hA _).mono ?_⟩
              rintro e w2 ⟨rfl, hU⟩
              replace hM := hT _ _ hU
              clear hA hT hU
              refine ⟨_, rfl, ?_⟩
              refine ⟨(atBlk hM.right).cell rfl, ?_⟩
              obtain ⟨_, hA, hT⟩ := hM.llr
              refine ⟨(rraise_ok hA hl _).mono ?_⟩
              rintro e w2 ⟨rfl, hU⟩
              replace hM := hT _ _ hU
              clear hA hT hU
              refine ⟨_, rfl, ?_⟩
              exact ⟨by rw [beq_self_eq_true], _, hM.drop⟩
            · intro w1 q1 q2 q3 q4
              replace hM := hM.upd (Upd.same no q1 q2 q3 q4)
              refine ⟨_,  (atBlk hM.right).cell rfl, ?_⟩
              refine ⟨_,  (atBlk hM.right).cell rfl, ?_⟩
              obtain ⟨_, hA, hT⟩ := hM.lll
              refine ⟨(clear_ok hA _).mono ?_⟩
              rintro e w2 ⟨rfl, hU⟩
              replace hM := hT _ _ hU
              clear hA hT hU
              refine ⟨_, rfl, ?_⟩
              refine ⟨(atBlk hM.right).cell rfl, ?_⟩
              obtain ⟨_, hA, hT⟩ := hM.llr
              refine ⟨(rclear_ok hA hl _).mono ?_⟩
              rintro e w2 ⟨rfl, hU⟩
              replace hM := hT _ _ hU
              clear hA hT hU
              refine ⟨_, rfl, ?_⟩
              exact ⟨by rw [beq_self_eq_true], _, hM.drop⟩

theorem same_ok (q : Iq) (w : World) : Calls Try.prog 22 #[.agg #[.bool q.1, .bool q.2.1, .bool q.2.2.1, .int .u64 (mi q.2.2.2)], .agg #[.bool q.1, .bool q.2.1, .bool q.2.2.1, .int .u64 (mi q.2.2.2)]] w fun e w' => e = .returned (.bool true) ∧ Upd no w w' := by
  refine u22 ?_
  rw [t22]
  refine ⟨fun w1 h1 => ⟨fun w2 h2 => ?_⟩⟩
  have hB := h2.keep h1.blk'
  have hC := h2.blk'
  exact ⟨_, hB.cell rfl, _, hC.cell rfl, fun _ => ⟨_, hB.cell rfl, _, hC.cell rfl, fun _ => ⟨_, hB.cell rfl, _, hC.cell rfl, fun _ => ⟨_, hB.cell rfl, _, hC.cell rfl, by rw [beq_self_eq_true], (h1.upd no).and (h2.upd no)⟩, fun g => by simp at g⟩, fun g => by simp at g⟩, fun g => by simp at g⟩

theorem get_ok {w : World} {F : Fp} {b : Nat} {s : IrS} (h : IrO b w F s) (n : Int) : Calls Try.prog 20 #[.pointer (some ⟨b, 0, none⟩), .int .i64 n] w fun e w' =>
    ∃ q : Iq, e = .returned (.tuple #[.agg #[.bool q.1, .bool q.2.1, .bool q.2.2.1, .int .u64 (mi q.2.2.2)], .int .i64 (if nout n then 3 else 0)]) ∧ (¬ nout n → q = gq s n) ∧ Upd no w w' := by
  refine u20 ?_
  rw [t20]
  refine ⟨fun w1 hN => ⟨(find_ok b n w1).mono ?_⟩⟩
  have hw : IrO b w1 F s := (Frame.ir b).upd h (hN.upd no) (fun _ _ h => h)
  rintro e w2 ⟨⟨hn, rfl⟩ | ⟨hn, k, rfl, hk, rfl⟩, rfl⟩
  · refine ⟨_, _, rfl, fun _ => ?_, fun g => by simp at g⟩
    refine hN.blk'.wr0 (by simp) fun w3 hW => ?_
    have hB := hW.blk'
    exact ⟨_, hB.cell rfl, _, hB.cell rfl, _, hB.cell rfl, _, hB.cell rfl, i0, by rw [if_pos hn]; rfl, fun h => absurd hn h, (hN.upd no).trans hW.U (fun i hi e => absurd hi (by omega))⟩
  · refine ⟨_, _, rfl, fun g => by simp at g, fun _ => ⟨_, rfl, _, hw.cell hk rfl, _, hw.cell hk rfl, _, hw.cell hk rfl, _, hw.cell hk rfl, ?_⟩⟩
    refine hN.blk'.wr0 (by simp) fun w3 hW => ?_
    have hB := hW.blk'
    exact ⟨_, hB.cell rfl, _, hB.cell rfl, _, hB.cell rfl, _, hB.cell rfl, gq s k, by rw [if_neg hn], fun _ => rfl, (hN.upd no).trans hW.U (fun i hi e => absurd hi (by omega))⟩

theorem rnew_ok (n : Int) (w : World) : Calls Try.prog 14 #[.int .i64 n] w fun e w' =>
    (¬ (1 ≤ n ∧ n ≤ 64) ∧ e = .returned (.tuple #[.pointer none, .int .i64 2]) ∧ w' = w) ∨
    ((1 ≤ n ∧ n ≤ 64) ∧ ∃ b F y, e = .returned (.tuple #[.pointer (some ⟨b, 0, none⟩), .int .i64 0]) ∧ QiO b w' F ((n, List.replicate 16 i0), y) ∧ Upd no w w' ∧ ∀ i, F i → w.heap.size ≤ i) := by
  refine u14 ?_
  rw [t14]
  refine ⟨fun h1 => ⟨fun h2 => .inl ⟨by simp at h2; omega, rfl, rfl⟩, fun h2 => ?_⟩, fun h1 => .inl ⟨by simp at h1; omega, rfl, rfl⟩⟩
  obtain ⟨w1, hr, hN⟩ := run_mk elQ w (n := 16) (by omega) (by omega) .i64 .i64 (f := iqE) (x0 := i0) iqE_len rfl
  refine ⟨_, _, _, w1, hr, ⟨fun w2 hN2 => .inr ⟨by simp at h1 h2; omega, w1.heap.size, fun i => i = w1.heap.size ∨ fpS (some ⟨w.heap.size, 0, none⟩) i, (some ⟨w.heap.size, 0, none⟩, 16), rfl, ⟨hN2.blk', ?_, ?_, fun _ => Iff.rfl⟩, (hN.upd no).and (hN2.upd no), ?_⟩⟩⟩
  · exact (Sl.new (sz := 4) (n := 16) hN (by rw [flat_len iqE_len]; rfl) (by decide)).upd (hN2.upd no) (fun _ _ h => h)
  · rintro ⟨a, ha, hb⟩
    cases ha
    have := hN.size
    simp only at hb
    omega
  · rintro i (rfl | ⟨a, ha, rfl⟩)
    · have := hN.size; omega
    · cases ha; exact Nat.le_refl _
end Go.Dav
