/- The statements on works: what their functions come to. -/
import Derived.Test.YtmlaiacompgcnaaDoorRWork17
set_option linter.unusedSimpArgs false
set_option linter.unusedVariables false
namespace Go.Dav
open Go.Proofs
theorem Mine.lll {α β γ δ : Type} {A : Ob α} {B : Ob β} {C : Ob γ} {D : Ob δ} [Frame A] [Frame B] [Frame C] [Frame D] {W w : World} {x : ((α × β) × γ) × δ} (h : Mine W w (Star (Star (Star A B) C) D) x) :
    ∃ F1, A w F1 x.1.1.1 ∧ ∀ w' s', Turn A w w' F1 s' → Mine W w' (Star (Star (Star A B) C) D) (((s', x.1.1.2), x.1.2), x.2) := by
  obtain ⟨F, h1, h2⟩ := h.left
  obtain ⟨F2, k1, k2⟩ := h1.left
  obtain ⟨F3, r1, r2⟩ := k1.left
  exact ⟨F3, r1, fun w' s' k => h2 _ _ (k2 _ _ (r2 w' s' k))⟩
theorem Mine.llr {α β γ δ : Type} {A : Ob α} {B : Ob β} {C : Ob γ} {D : Ob δ} [Frame A] [Frame B] [Frame C] [Frame D] {W w : World} {x : ((α × β) × γ) × δ} (h : Mine W w (Star (Star (Star A B) C) D) x) :
    ∃ F1, B w F1 x.1.1.2 ∧ ∀ w' s', Turn B w w' F1 s' → Mine W w' (Star (Star (Star A B) C) D) (((x.1.1.1, s'), x.1.2), x.2) := by
  obtain ⟨F, h1, h2⟩ := h.left
  obtain ⟨F2, k1, k2⟩ := h1.left
  obtain ⟨F3, r1, r2⟩ := k1.right
  exact ⟨F3, r1, fun w' s' k => h2 _ _ (k2 _ _ (r2 w' s' k))⟩


theorem lsE_le {Q : QL} (h : WQ Q) {cpu : Int} : (lsE Q cpu).length ≤ 32 := by
  unfold lsE
  split
  · rename_i hc
    obtain ⟨i, hi, rfl, _⟩ := inW_at hc (by omega)
    rw [rowW_at hi]
    exact (h.row hi).2
  · simp
theorem wtakeNil_ok (cpu : Int) (w : World) : Calls Tryd.prog 18 #[.pointer none, .int .i64 cpu] w fun e w' => e = .returned (.tuple #[.int .i64 0, .int .i64 1]) ∧ w' = w := by
  refine u18 ?_
  rw [t18]
  refine ⟨(wmayNil_ok cpu 0 w).mono ?_⟩
  rintro e w1 ⟨rfl, rfl⟩
  exact ⟨_, rfl, fun g => ⟨rfl, rfl⟩, fun g => by simp at g⟩

theorem known_ok {w : World} (hTab : Tab w) : Calls Tryd.prog 8 #[] w fun e w' => e = .returned (.bool true) ∧ Upd no w w' := by
  refine u8 ?_
  rw [t8]
  refine ⟨(wnew_ok _ _).mono ?_⟩
  rintro e w2 hh
  obtain ⟨_, b1, F1, rfl, hQ, hU, hF⟩ := hh.resolve_left (fun h => absurd (by unfold okC; omega) h.1)
  have hM : Mine w w2 (WkI b1) (newQ 2) := Mine.new (Upd.refl _ _) hU hQ hF
  clear hU hQ hF
  refine ⟨_, _, rfl, ?_⟩
  refine ⟨fun g1 => ?_, fun g1 => ?_⟩
  · refine ⟨fun g2 => ?_, fun g2 => ?_⟩
    · first | exact absurd g2 (by decide +kernel) | (simp at g2; done)
    · obtain ⟨_, hA, hT⟩ := hM.turn
      refine ⟨(wqueue_ok hA (hTab.no hM.U) _).mono ?_⟩
      rintro e w2 ⟨rfl, hU⟩
      replace hM := hT _ _ hU
      clear hA hT hU
      refine ⟨_, _, rfl, ?_⟩
      obtain ⟨_, hA, hT⟩ := hM.turn
      refine ⟨(wqueue_ok hA (hTab.no hM.U) _).mono ?_⟩
      rintro e w2 ⟨rfl, hU⟩
      replace hM := hT _ _ hU
      clear hA hT hU
      refine ⟨_, _, rfl, ?_⟩
      obtain ⟨_, hA, hT⟩ := hM.turn
      refine ⟨(wtake_ok hA _).mono ?_⟩
      rintro e w2 ⟨rfl, hU⟩
      replace hM := hT _ _ hU
      clear hA hT hU
      refine ⟨_, _, rfl, ?_⟩
      obtain ⟨_, hA, hT⟩ := hM.turn
      refine ⟨(wunbind_ok hA _).mono ?_⟩
      rintro e w2 ⟨rfl, hU⟩
      replace hM := hT _ _ hU
      clear hA hT hU
      refine ⟨_, _, rfl, ?_⟩
      refine ⟨fun g3 => ?_, fun g3 => ?_⟩
      · refine ⟨fun g4 => ?_, fun g4 => ?_⟩
        · refine ⟨fun g5 => ?_, fun g5 => ?_⟩
          · refine ⟨fun g6 => ?_, fun g6 => ?_⟩
            · refine ⟨fun g7 => ?_, fun g7 => ?_⟩
              · refine ⟨fun g8 => ?_, fun g8 => ?_⟩
                · refine ⟨fun g9 => ?_, fun g9 => ?_⟩
                  · refine ⟨fun g10 => ?_, fun g10 => ?_⟩
                    · obtain ⟨_, hA, hT⟩ := hM.turn
                      refine ⟨(wls_ok hA _).mono ?_⟩
                      rintro e w2 ⟨_, _, rfl, hC0, hU⟩
                      replace hM := hM.upd hU
                      clear hA hT hU
                      refine ⟨_, _, _, rfl, ?_⟩
                      refine ⟨fun w2 hN => ?_⟩
                      have hC2 := (Sl.new (T := 3) (n := 1) (sz := 1) (cs := ([1] : List Int).map (Value.int .i64)) hN (by simp) (by decide)).cells
                      replace hM := hM.upd (hN.upd no)
                      replace hC0 := hC0.no (hN.upd no)
                      refine ⟨(ints_ok hC0 hC2 (by decide +kernel)).mono ?_⟩
                      rintro e w2 ⟨rfl, hU⟩
                      replace hM := hM.upd hU
                      clear hU
                      refine ⟨_, rfl, ?_⟩
                      exact ⟨by kernel_rfl, hM.U⟩
                    · first | exact absurd g10 (by decide +kernel) | (simp at g10; done)
                  · first | exact absurd g9 (by decide +kernel) | (simp at g9; done)
                · first | exact absurd g8 (by decide +kernel) | (simp at g8; done)
              · first | exact absurd g7 (by decide +kernel) | (simp at g7; done)
            · first | exact absurd g6 (by decide +kernel) | (simp at g6; done)
          · first | exact absurd g5 (by decide +kernel) | (simp at g5; done)
        · first | exact absurd g4 (by decide +kernel) | (simp at g4; done)
      · first | exact absurd g3 (by decide +kernel) | (simp at g3; done)
  · first | exact absurd g1 (by decide +kernel) | (simp at g1; done)

theorem workNil_ok {W : World} (hTab : Tab W) {m n : Int} (_ : (Lit.int .i64 m).wf = true) (_ : (Lit.int .i64 n).wf = true) : Calls Tryd.prog 5 #[.int .i64 m, .int .i64 n] W fun e w' => e = .returned (.bool true) ∧ Upd no W w' := by
  refine u5 ?_
  rw [t5]
  refine ⟨(wqueueNil_ok _ _).mono ?_⟩
  rintro e w2 ⟨rfl, rfl⟩
  refine ⟨_, _, rfl, ?_⟩
  refine ⟨(wtakeNil_ok _ _).mono ?_⟩
  rintro e w2 ⟨rfl, rfl⟩
  refine ⟨_, _, rfl, ?_⟩
  refine ⟨(wunbindNil_ok _ _).mono ?_⟩
  rintro e w2 ⟨rfl, rfl⟩
  refine ⟨_, _, rfl, ?_⟩
  refine ⟨(wwhereNil_ok _ _).mono ?_⟩
  rintro e w2 ⟨rfl, rfl⟩
  refine ⟨_, _, rfl, ?_⟩
  refine ⟨fun g1 => ?_, fun g1 => ?_⟩
  · refine ⟨fun g2 => ?_, fun g2 => ?_⟩
    · refine ⟨fun g3 => ?_, fun g3 => ?_⟩
      · refine ⟨(wdropNil_ok _ _).mono ?_⟩
        rintro e w2 ⟨rfl, rfl⟩
        refine ⟨_, rfl, ?_⟩
        refine ⟨fun g4 => ?_, fun g4 => ?_⟩
        · refine ⟨(whasNil_ok _ _).mono ?_⟩
          rintro e w2 ⟨rfl, rfl⟩
          refine ⟨_, rfl, ?_⟩
          refine ⟨fun g5 => ?_, fun g5 => ?_⟩
          · refine ⟨fun g6 => ?_, fun g6 => ?_⟩
            · refine ⟨(wlsNil_ok _ _).mono ?_⟩
              rintro e w2 ⟨rfl, rfl⟩
              refine ⟨_, _, _, rfl, ?_⟩
              refine ⟨fun g7 => ?_, fun g7 => ?_⟩
              · refine ⟨(wloadNil_ok _ _).mono ?_⟩
                rintro e w2 ⟨rfl, rfl⟩
                refine ⟨_, rfl, ?_⟩
                refine ⟨fun g8 => ?_, fun g8 => ?_⟩
                · refine ⟨(known_ok hTab).mono ?_⟩
                  rintro e w3 ⟨rfl, hU2⟩
                  refine ⟨_, rfl, ?_⟩
                  exact ⟨rfl, hU2⟩
                · exact absurd g8 (by decide)
              · exact absurd g7 (by decide)
            · exact absurd g6 (by decide)
          · exact absurd g5 (by decide)
        · exact absurd g4 (by decide)
      · exact absurd g3 (by decide)
    · exact absurd g2 (by decide)
  · exact absurd g1 (by decide)

/-! ### WorkPlays -/
theorem do_ok {W w : World} {b1 b2 b3 : Nat} {Q : QL} {a0 a : Int × Int × Int} (hTab : Tab W) (hM : Mine W w (Star (Star (WkI b1) (RwO b2)) (Rw b3 32 recIII)) ((Q, rot Q), a0)) (hI : WQ Q) :
    Calls Tryd.prog 9 #[.pointer (some ⟨b1, 0, none⟩), .pointer (some ⟨b2, 0, none⟩), .agg #[.int .i64 a.1, .int .i64 a.2.1, .int .i64 a.2.2]] w fun e w' =>
      e = .returned (.bool true) ∧ ∃ R, Mine W w' (Star (Star (WkI b1) (RwO b2)) (Rw b3 32 recIII)) ((R, rot R), a0) := by
  refine u9 ?_
  rw [t9]
  refine ⟨fun w2 hN => ?_⟩
  replace hM := hM.add (hN.upd no) (Rw.new (enc := recIII) (s := a) hN rfl) (fun _ h => Nat.le_of_eq h.symm)
  refine ⟨_,  (atBlk hM.right).cell rfl, ?_⟩
  refine ⟨by decide, ?_⟩
  refine ⟨fun g1 => ?_, fun g1 => ?_⟩
  · refine ⟨_,  (atBlk hM.right).cell rfl, ?_⟩
    obtain ⟨_, hA, hT⟩ := hM.lll
    refine ⟨(wqueue_ok hA (hTab.no hM.U) _).mono ?_⟩
    rintro e w2 ⟨rfl, hU⟩
    replace hM := hT _ _ hU
    clear hA hT hU
    refine ⟨_, _, rfl, ?_⟩
    refine ⟨_,  (atBlk hM.right).cell rfl, ?_⟩
    obtain ⟨_, hA, hT⟩ := hM.llr
    refine ⟨(rwQueue_ok hA hI _).mono ?_⟩
    rintro e w2 ⟨rfl, hU⟩
    replace hM := hT _ _ hU
    clear hA hT hU
    refine ⟨_, _, rfl, ?_⟩
    refine ⟨fun g2 => ?_, fun g2 => ?_⟩
    · first | (simp at g2; done) | exact ⟨by simp, _, hM.drop⟩
    · first | (simp at g2; done) | exact ⟨by simp, _, hM.drop⟩
  · refine ⟨fun g3 => ?_, fun g3 => ?_⟩
    · refine ⟨_,  (atBlk hM.right).cell rfl, ?_⟩
      obtain ⟨_, hA, hT⟩ := hM.lll
      refine ⟨(wtake_ok hA _).mono ?_⟩
      rintro e w2 ⟨rfl, hU⟩
      replace hM := hT _ _ hU
      clear hA hT hU
      refine ⟨_, _, rfl, ?_⟩
      refine ⟨_,  (atBlk hM.right).cell rfl, ?_⟩
      obtain ⟨_, hA, hT⟩ := hM.llr
      refine ⟨(rwTake_ok hA hI _).mono ?_⟩
      rintro e w2 ⟨rfl, hU⟩
      replace hM := hT _ _ hU
      clear hA hT hU
      refine ⟨_, _, rfl, ?_⟩
      refine ⟨fun g4 => ?_, fun g4 => ?_⟩
      · first | (simp at g4; done) | exact ⟨by simp, _, hM.drop⟩
      · first | (simp at g4; done) | exact ⟨by simp, _, hM.drop⟩
    · refine ⟨fun g5 => ?_, fun g5 => ?_⟩
      · refine ⟨_,  (atBlk hM.right).cell rfl, ?_⟩
        obtain ⟨_, hA, hT⟩ := hM.lll
        refine ⟨(wunbind_ok hA _).mono ?_⟩
        rintro e w2 ⟨rfl, hU⟩
        replace hM := hT _ _ hU
        clear hA hT hU
        refine ⟨_, _, rfl, ?_⟩
        refine ⟨_,  (atBlk hM.right).cell rfl, ?_⟩
        obtain ⟨_, hA, hT⟩ := hM.llr
        refine ⟨(rwUnbind_ok hA hI _).mono ?_⟩
        rintro e w2 ⟨rfl, hU⟩
        replace hM := hT _ _ hU
        clear hA hT hU
        refine ⟨_, _, rfl, ?_⟩
        refine ⟨fun g6 => ?_, fun g6 => ?_⟩
        · first | (simp at g6; done) | exact ⟨by simp, _, hM.drop⟩
        · first | (simp at g6; done) | exact ⟨by simp, _, hM.drop⟩
      · intro w1 q1 q2 q3 q4
        replace hM := hM.upd (Upd.same no q1 q2 q3 q4)
        refine ⟨_,  (atBlk hM.right).cell rfl, ?_⟩
        refine ⟨_,  (atBlk hM.right).cell rfl, ?_⟩
        obtain ⟨_, hA, hT⟩ := hM.lll
        refine ⟨(wdrop_ok hA _).mono ?_⟩
        rintro e w2 ⟨rfl, hU⟩
        replace hM := hT _ _ hU
        clear hA hT hU
        refine ⟨_, rfl, ?_⟩
        refine ⟨(atBlk hM.right).cell rfl, ?_⟩
        obtain ⟨_, hA, hT⟩ := hM.llr
        refine ⟨(rwDrop_ok hA hI _).mono ?_⟩
        rintro e w2 ⟨rfl, hU⟩
        replace hM := hT _ _ hU
        clear hA hT hU
        refine ⟨_, rfl, ?_⟩
        first | (simp at g5; done) | exact ⟨by simp, _, hM.drop⟩

theorem workPlays_ok {W : World} (hTab : Tab W) {m : Int} {p : Option Addr} {l : List (Int × Int × Int)} {c : Nat} (_ : (Lit.int .i64 m).wf = true) (_ : ∀ x ∈ l, okIII x) (h : Cells W p (l.flatMap recIII)) (_ : l.length ≤ maxLen) :
    Calls Tryd.prog 3 #[.int .i64 m, .slice p l.length c] W fun e w' => e = .returned (.bool true) ∧ Upd no W w' := by
  refine u3 ?_
  rw [t3]
  refine ⟨(wnew_ok m W).mono ?_⟩
  rintro e w1 (⟨hno, rfl, rfl⟩ | ⟨hyes, b1, F1, rfl, hQ, hU, hF⟩)
  · refine ⟨_, _, rfl, ⟨(rwNew_ok m w1).mono ?_⟩⟩
    rintro e w2 (⟨_, rfl, rfl⟩ | ⟨h, _⟩)
    · refine ⟨_, _, rfl, fun _ => ⟨fun g => by simp at g, fun _ => ⟨fun _ => ⟨(known_ok hTab).mono ?_⟩, fun g => by simp at g⟩⟩, fun g => by simp at g⟩
      rintro e w3 ⟨rfl, hU3⟩
      exact ⟨_, rfl, rfl, hU3⟩
    · exact absurd h hno
  · have hM : Mine W w1 (WkI b1) (newQ m) := Mine.new (Upd.refl _ _) hU hQ hF
    refine ⟨_, _, rfl, ⟨(rwNew_ok m w1).mono ?_⟩⟩
    rintro e w2 (⟨h, _⟩ | ⟨_, b2, F2, rfl, hQ2, hU2, hF2⟩)
    · exact absurd hyes h
    · replace hM : Mine W w2 (Star (WkI b1) (RwO b2)) (newQ m, rot (newQ m)) := hM.add hU2 hQ2 hF2
      clear hU hQ hF hU2 hQ2 hF2
      refine ⟨_, _, rfl, fun _ => ⟨fun g => by simp at g, fun _ => ⟨fun g => by simp at g, fun _ => ?_⟩⟩, fun g => by simp at g⟩
      refine ⟨WP_loop okProg (M := M3) (σ := Nat × QL) (fun x => e3_1 p l.length c (some ⟨b1, 0, none⟩) (some ⟨b2, 0, none⟩) (x.1 : Int))
        (fun x w => x.1 ≤ l.length ∧ x.1 ≤ 120 ∧ Mine W w (Star (WkI b1) (RwO b2)) (x.2, rot x.2)) (fun x _ => l.length - x.1) (0, newQ m) ⟨rfl, rfl, rfl, rfl, trivial⟩ ⟨by simp, by simp, hM⟩ ?_⟩
      clear hM
      rintro ⟨i, Q⟩ w ⟨h1, h2, hM⟩
      simp only at h1 h2 hM ⊢
      have hI0 : WQ Q := by obtain ⟨_, hA, _⟩ := hM.left; exact hA.wq
      have hgo : CutD Tryd.prog M3 c3_0 e3_0 w (k3_0 fun e w' => e = .returned (.bool true) ∧ Upd no W w') := by
        refine CutD.mk ?_
        rw [t3_0]
        refine ⟨(known_ok (hTab.no hM.U)).mono ?_⟩
        rintro e w' ⟨rfl, hU⟩
        exact ⟨_, rfl, rfl, hM.U.and hU⟩
      rw [t3_1]
      refine ⟨fun g1 => ?_, fun g1 => ?_⟩
      · refine ⟨fun g2 => ?_, fun g2 => ?_⟩
        · have hi : i < l.length := by simpa using g1
          have hi2 : i < 120 := by simp at g2; omega
          refine ⟨⟨by omega, by omega⟩, ?_⟩
          obtain ⟨_, ha, hc⟩ := (h.no hM.U).atk recIII_len (by omega) hi
          cases ha
          refine ⟨_, rfl, ?_⟩
          refine ⟨_,  hc 0 _ rfl, ?_⟩
          refine ⟨_,  hc 1 _ rfl, ?_⟩
          refine ⟨_,  hc 2 _ rfl, ?_⟩
          refine ⟨fun w2 hN => ?_⟩
          replace hM : Mine W w2 (Star (Star (WkI b1) (RwO b2)) (Rw w.heap.size 32 recIII)) ((Q, rot Q), (0, 0, 0)) := hM.add (hN.upd no) (Rw.new (enc := recIII) (s := (0, 0, 0)) hN rfl) (fun _ h => Nat.le_of_eq h.symm)
          generalize w.heap.size = b3 at hM ⊢
          obtain ⟨_, hA, hT⟩ := hM.right
          refine hA.blk.wr0 (by simp [recIII]) fun w3 hW => ?_
          replace hM : Mine W w3 (Star (Star (WkI b1) (RwO b2)) (Rw b3 32 recIII)) ((Q, rot Q), l[i]) := hT _ _ (hA.turned (s' := l[i]) hW.U hW.blk')
          clear hA hT hW
          refine ⟨_,  (atBlk hM.right).cell rfl, ?_⟩
          refine ⟨_,  (atBlk hM.right).cell rfl, ?_⟩
          refine ⟨_,  (atBlk hM.right).cell rfl, ?_⟩
          refine ⟨(do_ok (a := l[i]) hTab hM hI0).mono ?_⟩
          rintro e w2 ⟨rfl, R, hM⟩
          have hI : WQ R := by obtain ⟨_, hA, _⟩ := hM.ll; exact hA.wq
          refine ⟨_, rfl, ?_⟩
          refine ⟨fun g3 => ?_, fun g3 => ?_⟩
          · first | (simp at g3; done)
          · refine ⟨_,  (atBlk hM.right).cell rfl, ?_⟩
            obtain ⟨_, hA, hT⟩ := hM.ll
            refine ⟨(wwhere_ok hA _).mono ?_⟩
            rintro e w2 ⟨rfl, rfl⟩
            clear hA hT
            refine ⟨_, _, rfl, ?_⟩
            refine ⟨_,  (atBlk hM.right).cell rfl, ?_⟩
            obtain ⟨_, hA, hT⟩ := hM.lr
            refine ⟨(rwWhere_ok hA hI _).mono ?_⟩
            rintro e w2 ⟨rfl, rfl⟩
            clear hA hT
            refine ⟨_, _, rfl, ?_⟩
            intro w1 q1 q2 q3 q4
            replace hM := hM.upd (Upd.same no q1 q2 q3 q4)
            refine ⟨fun g4 => ?_, fun g4 => ?_⟩
            · refine ⟨fun g5 => ?_, fun g5 => ?_⟩
              · refine ⟨_,  (atBlk hM.right).cell rfl, ?_⟩
                obtain ⟨_, hA, hT⟩ := hM.ll
                refine ⟨(whas_ok hA _).mono ?_⟩
                rintro e w2 ⟨rfl, rfl⟩
                clear hA hT
                refine ⟨_, rfl, ?_⟩
                refine ⟨fun g6 => ?_, fun g6 => ?_⟩
                · refine ⟨_,  (atBlk hM.right).cell rfl, ?_⟩
                  refine ⟨_,  (atBlk hM.right).cell rfl, ?_⟩
                  obtain ⟨_, hA, hT⟩ := hM.ll
                  refine ⟨(wls_ok hA _).mono ?_⟩
                  rintro e w2 ⟨_, _, rfl, hC0, hU⟩
                  replace hM := hM.upd hU
                  clear hA hT hU
                  refine ⟨_, _, _, rfl, ?_⟩
                  refine ⟨(atBlk hM.right).cell rfl, ?_⟩
                  obtain ⟨_, hA, hT⟩ := hM.lr
                  refine ⟨(rwList_ok hA hI _).mono ?_⟩
                  rintro e w2 ⟨_, _, rfl, hC, rfl⟩
                  clear hA hT
                  refine ⟨_, _, _, rfl, ?_⟩
                  refine ⟨(ints_ok hC0 hC (Nat.le_trans (lsE_le hI) (by omega))).mono ?_⟩
                  rintro e w2 ⟨rfl, hU⟩
                  replace hM := hM.upd hU
                  clear hU
                  refine ⟨_, rfl, ?_⟩
                  refine ⟨fun g7 => ?_, fun g7 => ?_⟩
                  · obtain ⟨_, hA, hT⟩ := hM.ll
                    refine ⟨(wls_ok hA _).mono ?_⟩
                    rintro e w2 ⟨_, _, rfl, hC0, hU⟩
                    replace hM := hM.upd hU
                    clear hA hT hU
                    refine ⟨_, _, _, rfl, ?_⟩
                    obtain ⟨_, hA, hT⟩ := hM.lr
                    refine ⟨(rwList_ok hA hI _).mono ?_⟩
                    rintro e w2 ⟨_, _, rfl, hC, rfl⟩
                    clear hA hT
                    refine ⟨_, _, _, rfl, ?_⟩
                    refine ⟨(ints_ok hC0 hC (Nat.le_trans (lsE_le hI) (by omega))).mono ?_⟩
                    rintro e w2 ⟨rfl, hU⟩
                    replace hM := hM.upd hU
                    clear hU
                    refine ⟨_, rfl, ?_⟩
                    refine ⟨fun g8 => ?_, fun g8 => ?_⟩
                    · refine ⟨_,  (atBlk hM.right).cell rfl, ?_⟩
                      refine ⟨_,  (atBlk hM.right).cell rfl, ?_⟩
                      obtain ⟨_, hA, hT⟩ := hM.ll
                      refine ⟨(wload_ok hA _).mono ?_⟩
                      rintro e w2 ⟨rfl, hU⟩
                      replace hM := hM.upd hU
                      clear hA hT hU
                      refine ⟨_, rfl, ?_⟩
                      refine ⟨(atBlk hM.right).cell rfl, ?_⟩
                      obtain ⟨_, hA, hT⟩ := hM.lr
                      refine ⟨(rwList_ok hA hI _).mono ?_⟩
                      rintro e w2 ⟨_, _, rfl, hC, rfl⟩
                      clear hA hT
                      refine ⟨_, _, _, rfl, ?_⟩
                      refine ⟨fun g9 => ?_, fun g9 => ?_⟩
                      · first | (simp at g9; done)
                      · exact ⟨(i + 1, R), ⟨rfl, rfl, rfl, by rw [w64 (by omega)]; rfl, trivial⟩, ⟨by simp only; omega, by simp only; omega, hM.drop⟩, by simp only; omega⟩
                    · first | (simp at g8; done)
                  · first | (simp at g7; done)
                · first | (simp at g6; done)
              · first | (simp at g5; done)
            · first | (simp at g4; done)
        · exact hgo
      · exact hgo
end Go.Dav
