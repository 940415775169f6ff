/- The statements on threads: what their functions come to. -/
import Derived.Test.YtkonlnfdmmnbgaaDoorRThr11
set_option linter.unusedSimpArgs false
set_option linter.unusedVariables false
namespace Go.Dav
open Go.Proofs
theorem Mine.lll {α β γ δ : Type} {A : Ob α} {B : Ob β} {C : Ob γ} {D : Ob δ} [Frame A] [Frame B] [Frame C] [Frame D] {W w : World} {x : ((α × β) × γ) × δ} (h : Mine W w (Star (Star (Star A B) C) D) x) :
    ∃ F1, A w F1 x.1.1.1 ∧ ∀ w' s', Turn A w w' F1 s' → Mine W w' (Star (Star (Star A B) C) D) (((s', x.1.1.2), x.1.2), x.2) := by
  obtain ⟨F, h1, h2⟩ := h.left
  obtain ⟨F2, k1, k2⟩ := h1.left
  obtain ⟨F3, r1, r2⟩ := k1.left
  exact ⟨F3, r1, fun w' s' k => h2 _ _ (k2 _ _ (r2 w' s' k))⟩
theorem Mine.llr {α β γ δ : Type} {A : Ob α} {B : Ob β} {C : Ob γ} {D : Ob δ} [Frame A] [Frame B] [Frame C] [Frame D] {W w : World} {x : ((α × β) × γ) × δ} (h : Mine W w (Star (Star (Star A B) C) D) x) :
    ∃ F1, B w F1 x.1.1.2 ∧ ∀ w' s', Turn B w w' F1 s' → Mine W w' (Star (Star (Star A B) C) D) (((x.1.1.1, s'), x.1.2), x.2) := by
  obtain ⟨F, h1, h2⟩ := h.left
  obtain ⟨F2, k1, k2⟩ := h1.left
  obtain ⟨F3, r1, r2⟩ := k1.right
  exact ⟨F3, r1, fun w' s' k => h2 _ _ (k2 _ _ (r2 w' s' k))⟩


theorem tlistC_ok {b : Nat} {w : World} {F : Fp} {x : TX} (h : ThO b w F x) : Calls Tryd.prog 11 #[.pointer (some ⟨b, 0, none⟩)] w fun e w' => ∃ p c, e = .returned (.slice p (tlE x).length c) ∧ Cells w' p ((tlE x).map (Value.int .i64)) ∧ Upd no w w' :=
  (tlist_ok h).mono fun _ _ ⟨p, c, he, hL⟩ => ⟨p, c, he, hL.S.cells, hL.U⟩
/-! ### What stays -/
def Keep (x y : TX) (n : Int) : Prop := ∀ k t, k ≠ n → sAt x.2 k = some t → sAt y.2 k = some t
theorem sAt_set {S : TL} {i : Nat} (hi : i < S.length) (v : Option Th) (n : Int) : sAt (S.set i v) n = if n = (i : Int) + 1 then v else sAt S n := by
  unfold sAt
  by_cases h1 : 1 ≤ n
  · rw [if_pos h1, if_pos h1]
    by_cases hn : n = (i : Int) + 1
    · subst hn
      have e1 : ((i : Int) + 1).toNat - 1 = i := by omega
      rw [if_pos rfl, e1]
      simp [List.getD_eq_getElem?_getD, hi]
    · rw [if_neg hn]
      have : i ≠ n.toNat - 1 := by omega
      simp [List.getD_eq_getElem?_getD, this]
  · rw [if_neg h1, if_neg h1, if_neg (by omega)]
theorem keep_same (x : TX) (n : Int) : Keep x x n := fun _ _ _ h => h
theorem keep_at {x : TX} {n : Int} {t : Th} (h : sAt x.2 n = some t) (v : Option Th) : Keep x (x.1, x.2.set (n.toNat - 1) v) n := by
  rcases sAt_cases x.2 n with h0 | ⟨i, t', hi, hn, hs, _⟩
  · rw [h] at h0; cases h0
  · subst hn
    have e1 : ((i : Int) + 1).toNat - 1 = i := by omega
    intro k u hk hu
    simp only [e1]
    rw [sAt_set hi, if_neg hk]
    exact hu
theorem keep_ex {x : TX} {n : Int} : Keep x (exS x n) n := by
  unfold exS
  split
  · rename_i h; exact keep_at h _
  · exact keep_same _ _
theorem keep_ai (m : BV) {x : TX} {n : Int} : Keep x (aiS x n m) n := by
  unfold aiS
  split
  · rename_i h
    split
    · exact keep_at h _
    · exact keep_same _ _
  · exact keep_same _ _
theorem keep_pl (c : Int) (f : Bool) {x : TX} {n : Int} : Keep x (plS x n c f) n := by
  unfold plS
  split
  · rename_i h
    split
    · exact keep_at h _
    · exact keep_same _ _
  · exact keep_same _ _
theorem keep_slp (c : Int) {x : TX} {n : Int} : Keep x (slpS x n c) n := by
  unfold slpS
  split
  · rename_i h
    split
    · exact keep_same _ _
    · exact keep_at h _
  · exact keep_same _ _
theorem keep_wa {x : TX} {n : Int} : Keep x (waS x n) n := by
  unfold waS
  split
  · rename_i h
    split
    · exact keep_at h _
    · exact keep_same _ _
  · exact keep_same _ _
theorem keep_sp (p : Int) (m : BV) {x : TX} {n : Int} : Keep x (spS x p m) n := by
  unfold spS
  split
  · rename_i h
    rcases take_cases (okOf x.2) with ⟨j, hj, t1, _, t3⟩ | ⟨t1, _⟩
    · have hj' : j < x.2.length := by simpa [okOf] using hj
      have e1 : ((j : Int) + 1).toNat - 1 = j := by omega
      rw [ok_has hj'] at t3
      intro k u _ hu
      simp only [t1, e1]
      rw [sAt_set hj']
      split
      · rename_i hk
        subst hk
        rw [sAt_of hj'] at hu
        rw [hu] at t3
        cases t3
      · exact hu
    · have := h.2
      rw [t1] at this
      cases this
  · exact keep_same _ _

theorem known_ok {w : World} (hTab : Tab w) : Calls Tryd.prog 8 #[] w fun e w' => e = .returned (.bool true) ∧ Upd no w w' := by
  refine u8 ?_
  rw [t8]
  refine ⟨(tnew_ok _ _).mono ?_⟩
  rintro e w2 hh
  obtain ⟨_, b1, F1, rfl, hQ, hU, hF⟩ := hh.resolve_left (fun h => absurd (by unfold okC; omega) h.1)
  have hM : Mine w w2 (ThO b1) (newT 2) := Mine.new (Upd.refl _ _) hU hQ hF
  clear hU hQ hF
  refine ⟨_, _, rfl, ?_⟩
  refine ⟨fun g1 => ?_, fun g1 => ?_⟩
  · refine ⟨fun g2 => ?_, fun g2 => ?_⟩
    · first | exact absurd g2 (by decide +kernel) | (simp at g2; done)
    · obtain ⟨_, hA, hT⟩ := hM.turn
      refine ⟨(spawn_ok hA (hTab.no hM.U) _ 1).mono ?_⟩
      rintro e w2 ⟨rfl, hU⟩
      replace hM := hT _ _ hU
      clear hA hT hU
      refine ⟨_, _, rfl, ?_⟩
      obtain ⟨_, hA, hT⟩ := hM.turn
      refine ⟨(spawn_ok hA (hTab.no hM.U) _ 1).mono ?_⟩
      rintro e w2 ⟨rfl, hU⟩
      replace hM := hT _ _ hU
      clear hA hT hU
      refine ⟨_, _, rfl, ?_⟩
      obtain ⟨_, hA, hT⟩ := hM.turn
      refine ⟨(exit_ok hA _).mono ?_⟩
      rintro e w2 ⟨rfl, hU⟩
      replace hM := hT _ _ hU
      clear hA hT hU
      refine ⟨_, rfl, ?_⟩
      obtain ⟨_, hA, hT⟩ := hM.turn
      refine ⟨(spawn_ok hA (hTab.no hM.U) _ 2).mono ?_⟩
      rintro e w2 ⟨rfl, hU⟩
      replace hM := hT _ _ hU
      clear hA hT hU
      refine ⟨_, _, rfl, ?_⟩
      obtain ⟨_, hA, hT⟩ := hM.turn
      refine ⟨(get_ok hA _).mono ?_⟩
      rintro e w2 ⟨rfl, hU⟩
      replace hM := hM.upd hU
      clear hA hT hU
      refine ⟨_, _, _, _, _, _, _, rfl, ?_⟩
      refine ⟨fun w2 hN => ?_⟩
      replace hM := hM.add (hN.upd no) (Rw.new (enc := thE) (s := ((0 : Int), (0 : BV), (0 : Int), false, false, (0 : Int))) hN rfl) (fun _ h => Nat.le_of_eq h.symm)
      obtain ⟨_, hA, hT⟩ := hM.right
      refine hA.blk.wr0 (by simp [thE]) fun w3 hW => ?_
      replace hM := hT _ _ (hA.turned (s' := (getE (spS (exS (spS (spS (newT 2) 3 1) 3 1) 1) 0 2) 1).1) hW.U hW.blk')
      clear hA hT hW
      refine ⟨fun g3 => ?_, fun g3 => ?_⟩
      · refine ⟨fun g4 => ?_, fun g4 => ?_⟩
        · refine ⟨fun g5 => ?_, fun g5 => ?_⟩
          · refine ⟨fun g6 => ?_, fun g6 => ?_⟩
            · refine ⟨_,  (atBlk hM.right).cell rfl, ?_⟩
              refine ⟨fun g7 => ?_, fun g7 => ?_⟩
              · obtain ⟨_, hA, hT⟩ := hM.left
                refine ⟨(tlistC_ok hA).mono ?_⟩
                rintro e w2 ⟨_, _, rfl, hC0, hU⟩
                replace hM := hM.upd hU
                clear hA hT hU
                refine ⟨_, _, _, rfl, ?_⟩
                refine ⟨fun w2 hN => ?_⟩
                have hC2 := (Sl.new (T := 3) (n := 2) (sz := 1) (cs := ([1, 2] : List Int).map (Value.int .i64)) hN (by simp) (by decide)).cells
                replace hM := hM.upd (hN.upd no)
                replace hC0 := hC0.no (hN.upd no)
                refine ⟨(ints_ok hC0 hC2 (by decide +kernel)).mono ?_⟩
                rintro e w2 ⟨rfl, hU⟩
                replace hM := hM.upd hU
                clear hU
                refine ⟨_, rfl, ?_⟩
                exact ⟨congrArg (fun b => Ending.returned (Value.bool b)) (by decide +kernel), hM.U⟩
              · first | exact absurd g7 (by decide +kernel) | (simp at g7; done)
            · first | exact absurd g6 (by decide +kernel) | (simp at g6; done)
          · first | exact absurd g5 (by decide +kernel) | (simp at g5; done)
        · first | exact absurd g4 (by decide +kernel) | (simp at g4; done)
      · first | exact absurd g3 (by decide +kernel) | (simp at g3; done)
  · first | exact absurd g1 (by decide +kernel) | (simp at g1; done)

theorem threadNil_ok {W : World} (hTab : Tab W) {n : Int} (_ : (Lit.int .i64 n).wf = true) (m : BV) : Calls Tryd.prog 5 #[.int .i64 n, .int .u64 (mi m)] W fun e w' => e = .returned (.bool true) ∧ Upd no W w' := by
  have hM := Mine.non W
  refine u5 ?_
  rw [t5]
  refine ⟨(spawnNil_ok _ _ _).mono ?_⟩
  rintro e w2 ⟨rfl, rfl⟩
  refine ⟨_, _, rfl, ?_⟩
  refine ⟨(getNil_ok _ _).mono ?_⟩
  rintro e w2 ⟨rfl, hU⟩
  replace hM := hM.upd hU
  clear hU
  refine ⟨_, _, _, _, _, _, _, rfl, ?_⟩
  refine ⟨fun w2 hN => ?_⟩
  replace hM := hM.add (hN.upd no) (Rw.new (enc := thE) (s := ((0 : Int), (0 : BV), (0 : Int), false, false, (0 : Int))) hN rfl) (fun _ h => Nat.le_of_eq h.symm)
  obtain ⟨_, hA, hT⟩ := hM.right
  refine hA.blk.wr0 (by simp [thE]) fun w3 hW => ?_
  replace hM := hT _ _ (hA.turned (s' := ((0 : Int), (0 : BV), (0 : Int), false, false, (0 : Int))) hW.U hW.blk')
  clear hA hT hW
  refine ⟨(wakeNil_ok _ _).mono ?_⟩
  rintro e w2 ⟨rfl, rfl⟩
  refine ⟨_, _, rfl, ?_⟩
  refine ⟨fun g1 => ?_, fun g1 => ?_⟩
  · refine ⟨(exitNil_ok _ _).mono ?_⟩
    rintro e w2 ⟨rfl, rfl⟩
    refine ⟨_, rfl, ?_⟩
    refine ⟨fun g2 => ?_, fun g2 => ?_⟩
    · refine ⟨fun g3 => ?_, fun g3 => ?_⟩
      · refine ⟨(aimNil_ok _ 1 _).mono ?_⟩
        rintro e w2 ⟨rfl, rfl⟩
        refine ⟨_, rfl, ?_⟩
        refine ⟨fun g4 => ?_, fun g4 => ?_⟩
        · refine ⟨(placeNil_ok _ _ _ _).mono ?_⟩
          rintro e w2 ⟨rfl, rfl⟩
          refine ⟨_, rfl, ?_⟩
          refine ⟨fun g5 => ?_, fun g5 => ?_⟩
          · refine ⟨(sleepNil_ok _ _ _).mono ?_⟩
            rintro e w2 ⟨rfl, rfl⟩
            refine ⟨_, rfl, ?_⟩
            refine ⟨fun g6 => ?_, fun g6 => ?_⟩
            · refine ⟨fun g7 => ?_, fun g7 => ?_⟩
              · refine ⟨(tlistNil_ok _).mono ?_⟩
                rintro e w2 ⟨rfl, rfl⟩
                refine ⟨_, _, _, rfl, ?_⟩
                refine ⟨fun g8 => ?_, fun g8 => ?_⟩
                · refine ⟨(known_ok (hTab.no hM.U)).mono ?_⟩
                  rintro e w3 ⟨rfl, hU2⟩
                  refine ⟨_, rfl, ?_⟩
                  exact ⟨rfl, hM.U.and hU2⟩
                · exact absurd g8 (by decide)
              · exact absurd g7 (by decide)
            · exact absurd g6 (by decide)
          · exact absurd g5 (by decide)
        · exact absurd g4 (by decide)
      · exact absurd g3 (by decide)
    · exact absurd g2 (by decide)
  · exact absurd g1 (by decide)

/-! ### ThreadPlays -/
theorem do_ok {γ : Type} {C : Ob γ} [Frame C] {z : γ} {W w : World} {b1 b2 : Nat} {x : TX} {a : Int × Int × Int × BV × Int × Bool} (hTab : Tab W) (hM : Mine W w (Star (Star (ThO b1) (RtO b2)) C) ((x, x), z)) :
    Calls Tryd.prog 9 #[.pointer (some ⟨b1, 0, none⟩), .pointer (some ⟨b2, 0, none⟩), .agg #[.int .i64 a.1, .int .i64 a.2.1, .int .i64 a.2.2.1, .int .u64 (mi a.2.2.2.1), .int .i64 a.2.2.2.2.1, .bool a.2.2.2.2.2]] w fun e w' =>
      e = .returned (.bool true) ∧ ∃ y, Keep x y a.2.1 ∧ Mine W w' (Star (Star (ThO b1) (RtO b2)) C) ((y, y), z) := by
  refine u9 ?_
  rw [t9]
  refine ⟨fun w2 hN => ?_⟩
  replace hM := hM.add (hN.upd no) (Rw.new (enc := recIIIUIB) (s := a) hN rfl) (fun _ h => Nat.le_of_eq h.symm)
  refine ⟨_,  (atBlk hM.right).cell rfl, ?_⟩
  refine ⟨by decide, ?_⟩
  refine ⟨fun g1 => ?_, fun g1 => ?_⟩
  · refine ⟨_,  (atBlk hM.right).cell rfl, ?_⟩
    refine ⟨_,  (atBlk hM.right).cell rfl, ?_⟩
    obtain ⟨_, hA, hT⟩ := hM.lll
    refine ⟨(spawn_ok hA (hTab.no hM.U) _ _).mono ?_⟩
    rintro e w2 ⟨rfl, hU⟩
    replace hM := hT _ _ hU
    clear hA hT hU
    refine ⟨_, _, rfl, ?_⟩
    refine ⟨_,  (atBlk hM.right).cell rfl, ?_⟩
    refine ⟨_,  (atBlk hM.right).cell rfl, ?_⟩
    obtain ⟨_, hA, hT⟩ := hM.llr
    refine ⟨(rspawn_ok hA _ _).mono ?_⟩
    rintro e w2 ⟨rfl, hU⟩
    replace hM := hT _ _ hU
    clear hA hT hU
    refine ⟨_, _, rfl, ?_⟩
    refine ⟨fun g2 => ?_, fun g2 => ?_⟩
    · first | (simp at g2; done) | exact ⟨by simp, _, keep_sp _ _, hM.drop⟩ | exact ⟨by simp, _, keep_ex, hM.drop⟩ | exact ⟨by simp, _, keep_ai _, hM.drop⟩ | exact ⟨by simp, _, keep_pl _ _, hM.drop⟩ | exact ⟨by simp, _, keep_slp _, hM.drop⟩ | exact ⟨by simp, _, keep_wa, hM.drop⟩
    · first | (simp at g2; done) | exact ⟨by simp, _, keep_sp _ _, hM.drop⟩ | exact ⟨by simp, _, keep_ex, hM.drop⟩ | exact ⟨by simp, _, keep_ai _, hM.drop⟩ | exact ⟨by simp, _, keep_pl _ _, hM.drop⟩ | exact ⟨by simp, _, keep_slp _, hM.drop⟩ | exact ⟨by simp, _, keep_wa, hM.drop⟩
  · refine ⟨fun g3 => ?_, fun g3 => ?_⟩
    · intro w1 q1 q2 q3 q4
      replace hM := hM.upd (Upd.same no q1 q2 q3 q4)
      refine ⟨_,  (atBlk hM.right).cell rfl, ?_⟩
      refine ⟨_,  (atBlk hM.right).cell rfl, ?_⟩
      obtain ⟨_, hA, hT⟩ := hM.lll
      refine ⟨(exit_ok hA _).mono ?_⟩
      rintro e w2 ⟨rfl, hU⟩
      replace hM := hT _ _ hU
      clear hA hT hU
      refine ⟨_, rfl, ?_⟩
      refine ⟨(atBlk hM.right).cell rfl, ?_⟩
      obtain ⟨_, hA, hT⟩ := hM.llr
      refine ⟨(rexit_ok hA _).mono ?_⟩
      rintro e w2 ⟨rfl, hU⟩
      replace hM := hT _ _ hU
      clear hA hT hU
      refine ⟨_, rfl, ?_⟩
      first | (simp at g3; done) | exact ⟨by simp, _, keep_sp _ _, hM.drop⟩ | exact ⟨by simp, _, keep_ex, hM.drop⟩ | exact ⟨by simp, _, keep_ai _, hM.drop⟩ | exact ⟨by simp, _, keep_pl _ _, hM.drop⟩ | exact ⟨by simp, _, keep_slp _, hM.drop⟩ | exact ⟨by simp, _, keep_wa, hM.drop⟩
    · refine ⟨fun g4 => ?_, fun g4 => ?_⟩
      · intro w1 q1 q2 q3 q4
        replace hM := hM.upd (Upd.same no q1 q2 q3 q4)
        refine ⟨_,  (atBlk hM.right).cell rfl, ?_⟩
        refine ⟨_,  (atBlk hM.right).cell rfl, ?_⟩
        refine ⟨_,  (atBlk hM.right).cell rfl, ?_⟩
        refine ⟨_,  (atBlk hM.right).cell rfl, ?_⟩
        obtain ⟨_, hA, hT⟩ := hM.lll
        refine ⟨(aim_ok hA _ _).mono ?_⟩
        rintro e w2 ⟨rfl, hU⟩
        replace hM := hT _ _ hU
        clear hA hT hU
        refine ⟨_, rfl, ?_⟩
        refine ⟨(atBlk hM.right).cell rfl, ?_⟩
        refine ⟨(atBlk hM.right).cell rfl, ?_⟩
        obtain ⟨_, hA, hT⟩ := hM.llr
        refine ⟨(raim_ok hA _ _).mono ?_⟩
        rintro e w2 ⟨rfl, hU⟩
        replace hM := hT _ _ hU
        clear hA hT hU
        refine ⟨_, rfl, ?_⟩
        first | (simp at g4; done) | exact ⟨by simp, _, keep_sp _ _, hM.drop⟩ | exact ⟨by simp, _, keep_ex, hM.drop⟩ | exact ⟨by simp, _, keep_ai _, hM.drop⟩ | exact ⟨by simp, _, keep_pl _ _, hM.drop⟩ | exact ⟨by simp, _, keep_slp _, hM.drop⟩ | exact ⟨by simp, _, keep_wa, hM.drop⟩
      · refine ⟨fun g5 => ?_, fun g5 => ?_⟩
        · intro w1 q1 q2 q3 q4
          replace hM := hM.upd (Upd.same no q1 q2 q3 q4)
          refine ⟨_,  (atBlk hM.right).cell rfl, ?_⟩
          refine ⟨_,  (atBlk hM.right).cell rfl, ?_⟩
          refine ⟨_,  (atBlk hM.right).cell rfl, ?_⟩
          refine ⟨_,  (atBlk hM.right).cell rfl, ?_⟩
          refine ⟨_,  (atBlk hM.right).cell rfl, ?_⟩
          refine ⟨_,  (atBlk hM.right).cell rfl, ?_⟩
          obtain ⟨_, hA, hT⟩ := hM.lll
          refine ⟨(place_ok hA _ _ _).mono ?_⟩
          rintro e w2 ⟨rfl, hU⟩
          replace hM := hT _ _ hU
          clear hA hT hU
          refine ⟨_, rfl, ?_⟩
          refine ⟨(atBlk hM.right).cell rfl, ?_⟩
          refine ⟨(atBlk hM.right).cell rfl, ?_⟩
          refine ⟨(atBlk hM.right).cell rfl, ?_⟩
          obtain ⟨_, hA, hT⟩ := hM.llr
          refine ⟨(rplace_ok hA _ _ _).mono ?_⟩
          rintro e w2 ⟨rfl, hU⟩
          replace hM := hT _ _ hU
          clear hA hT hU
          refine ⟨_, rfl, ?_⟩
          first | (simp at g5; done) | exact ⟨by simp, _, keep_sp _ _, hM.drop⟩ | exact ⟨by simp, _, keep_ex, hM.drop⟩ | exact ⟨by simp, _, keep_ai _, hM.drop⟩ | exact ⟨by simp, _, keep_pl _ _, hM.drop⟩ | exact ⟨by simp, _, keep_slp _, hM.drop⟩ | exact ⟨by simp, _, keep_wa, hM.drop⟩
        · refine ⟨fun g6 => ?_, fun g6 => ?_⟩
          · intro w1 q1 q2 q3 q4
            replace hM := hM.upd (Upd.same no q1 q2 q3 q4)
            refine ⟨_,  (atBlk hM.right).cell rfl, ?_⟩
            refine ⟨_,  (atBlk hM.right).cell rfl, ?_⟩
            refine ⟨_,  (atBlk hM.right).cell rfl, ?_⟩
            refine ⟨_,  (atBlk hM.right).cell rfl, ?_⟩
            obtain ⟨_, hA, hT⟩ := hM.lll
            refine ⟨(sleep_ok hA _ _).mono ?_⟩
            rintro e w2 ⟨rfl, hU⟩
            replace hM := hT _ _ hU
            clear hA hT hU
            refine ⟨_, rfl, ?_⟩
            refine ⟨(atBlk hM.right).cell rfl, ?_⟩
            refine ⟨(atBlk hM.right).cell rfl, ?_⟩
            obtain ⟨_, hA, hT⟩ := hM.llr
            refine ⟨(rsleep_ok hA _ _).mono ?_⟩
            rintro e w2 ⟨rfl, hU⟩
            replace hM := hT _ _ hU
            clear hA hT hU
            refine ⟨_, rfl, ?_⟩
            first | (simp at g6; done) | exact ⟨by simp, _, keep_sp _ _, hM.drop⟩ | exact ⟨by simp, _, keep_ex, hM.drop⟩ | exact ⟨by simp, _, keep_ai _, hM.drop⟩ | exact ⟨by simp, _, keep_pl _ _, hM.drop⟩ | exact ⟨by simp, _, keep_slp _, hM.drop⟩ | exact ⟨by simp, _, keep_wa, hM.drop⟩
          · refine ⟨_,  (atBlk hM.right).cell rfl, ?_⟩
            obtain ⟨_, hA, hT⟩ := hM.lll
            refine ⟨(wake_ok hA _).mono ?_⟩
            rintro e w2 ⟨rfl, hU⟩
            replace hM := hT _ _ hU
            clear hA hT hU
            refine ⟨_, _, rfl, ?_⟩
            refine ⟨_,  (atBlk hM.right).cell rfl, ?_⟩
            obtain ⟨_, hA, hT⟩ := hM.llr
            refine ⟨(rwake_ok hA _).mono ?_⟩
            rintro e w2 ⟨rfl, hU⟩
            replace hM := hT _ _ hU
            clear hA hT hU
            refine ⟨_, _, rfl, ?_⟩
            refine ⟨fun g7 => ?_, fun g7 => ?_⟩
            · first | (simp at g7; done) | exact ⟨by simp, _, keep_sp _ _, hM.drop⟩ | exact ⟨by simp, _, keep_ex, hM.drop⟩ | exact ⟨by simp, _, keep_ai _, hM.drop⟩ | exact ⟨by simp, _, keep_pl _ _, hM.drop⟩ | exact ⟨by simp, _, keep_slp _, hM.drop⟩ | exact ⟨by simp, _, keep_wa, hM.drop⟩
            · first | (simp at g7; done) | exact ⟨by simp, _, keep_sp _ _, hM.drop⟩ | exact ⟨by simp, _, keep_ex, hM.drop⟩ | exact ⟨by simp, _, keep_ai _, hM.drop⟩ | exact ⟨by simp, _, keep_pl _ _, hM.drop⟩ | exact ⟨by simp, _, keep_slp _, hM.drop⟩ | exact ⟨by simp, _, keep_wa, hM.drop⟩
theorem same_ok (k : Int) (t : Th) (w : World) : Calls Tryd.prog 15 #[.agg #[.int .i64 t.1, .int .u64 (mi t.2.1), .int .i64 t.2.2.1, .bool t.2.2.2.1, .bool t.2.2.2.2.1, .int .i64 t.2.2.2.2.2], .agg #[.int .i64 k, .int .i64 t.1, .int .u64 (mi t.2.1), .int .i64 t.2.2.1, .bool t.2.2.2.1, .bool t.2.2.2.2.1, .int .i64 t.2.2.2.2.2]] w fun e w' => e = .returned (.bool true) ∧ Upd no w w' := by
  refine u15 ?_
  rw [t15]
  refine ⟨fun w1 h1 => ⟨fun w2 h2 => ?_⟩⟩
  have hB := h2.keep h1.blk'
  have hC := h2.blk'
  exact ⟨_, hB.cell rfl, _, hC.cell rfl, fun _ => ⟨_, hB.cell rfl, _, hC.cell rfl, fun _ => ⟨_, hB.cell rfl, _, hC.cell rfl, fun _ => ⟨_, hB.cell rfl, _, hC.cell rfl, fun _ => ⟨_, hB.cell rfl, _, hC.cell rfl, fun _ => ⟨_, hB.cell rfl, _, hC.cell rfl, by rw [beq_self_eq_true], (h1.upd no).and (h2.upd no)⟩, fun g => by simp at g⟩, fun g => by simp at g⟩, fun g => by simp at g⟩, fun g => by simp at g⟩, fun g => by simp at g⟩
theorem Mine.toNon {σ : Type} {A : Ob σ} [Frame A] {W w : World} {x : σ} (h : Mine W w A x) : Mine W w (Star A Non) (x, ()) := h.add (Upd.refl _ _) (B := Non) (t := ()) (G := fun _ => False) (fun _ h => h) (fun _ h => h.elim)
end Go.Dav
