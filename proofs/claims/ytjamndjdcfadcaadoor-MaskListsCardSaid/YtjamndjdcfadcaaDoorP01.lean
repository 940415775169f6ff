/- The statements on masks of cores: what their functions come to. -/
import Derived.Test.YtjamndjdcfadcaaDoorCnt01
import Derived.Test.YtjamndjdcfadcaaDoorLv
set_option linter.unusedSimpArgs false
set_option linter.unusedVariables false
namespace Go.Dav
open Go.Proofs

theorem known_ok {w : World} (hT : Tab w) : Calls Tryd.prog 8 #[] w fun e w' => e = .returned (.bool true) ∧ Upd no w w' := by
  have hM : Mine w w Non () := Mine.non w
  refine u8 ?_
  rw [t8]
  refine ⟨fun w2 hN => ?_⟩
  have hC := (Sl.new (T := 3) (n := 4) (sz := 1) (cs := ([1, 5, 64, -1] : List Int).map (Value.int .i64)) hN (by simp) (by decide)).cells
  replace hM := hM.upd (hN.upd no)
  refine ⟨(mOf_ok hC (by decide)).mono ?_⟩
  rintro e w2 ⟨rfl, rfl⟩
  refine ⟨_, rfl, ?_⟩
  refine ⟨(mNext_ok _ _ (hT.no hM.U)).mono ?_⟩
  rintro e w2 ⟨rfl, rfl⟩
  refine ⟨_, _, rfl, ?_⟩
  refine ⟨(mFirst_ok 0 (hT.no hM.U)).mono ?_⟩
  rintro e w2 ⟨rfl, rfl⟩
  refine ⟨_, _, rfl, ?_⟩
  refine ⟨fun g1 => ?_, fun g1 => ?_⟩
  · refine ⟨fun g2 => ?_, fun g2 => ?_⟩
    · refine ⟨fun g3 => ?_, fun g3 => ?_⟩
      · refine ⟨fun g4 => ?_, fun g4 => ?_⟩
        · refine ⟨(mHas_ok _ _ _).mono ?_⟩
          rintro e w2 ⟨rfl, rfl⟩
          refine ⟨_, rfl, ?_⟩
          refine ⟨fun g5 => ?_, fun g5 => ?_⟩
          · refine ⟨(mHas_ok _ _ _).mono ?_⟩
            rintro e w2 ⟨rfl, rfl⟩
            refine ⟨_, rfl, ?_⟩
            exact ⟨congrArg (fun b => Ending.returned (Value.bool b)) (by decide +kernel), hM.U⟩
          · exact absurd g5 (by decide +kernel)
        · exact absurd g4 (by decide +kernel)
      · exact absurd g3 (by decide +kernel)
    · exact absurd g2 (by decide +kernel)
  · exact absurd g1 (by decide +kernel)

theorem maskParts_ok {W : World} (hT : Tab W) (a b : BV) : Calls Tryd.prog 4 #[.int .u64 (mi a), .int .u64 (mi b)] W fun e w' => e = .returned (.bool true) ∧ Upd no W w' := by
  have hM : Mine W W Non () := Mine.non W
  refine u4 ?_
  rw [t4]
  refine ⟨(mAnd_ok _ _ _).mono ?_⟩
  rintro e w2 ⟨rfl, rfl⟩
  refine ⟨_, rfl, ?_⟩
  refine ⟨(rAnd_ok _ _ _).mono ?_⟩
  rintro e w2 ⟨rfl, hU⟩
  replace hM := hM.upd hU
  clear hU
  refine ⟨_, rfl, ?_⟩
  refine ⟨fun g1 => ?_, fun g1 => ?_⟩
  · refine ⟨(mOr_ok _ _ _).mono ?_⟩
    rintro e w2 ⟨rfl, rfl⟩
    refine ⟨_, rfl, ?_⟩
    refine ⟨(rOr_ok _ _ _).mono ?_⟩
    rintro e w2 ⟨rfl, hU⟩
    replace hM := hM.upd hU
    clear hU
    refine ⟨_, rfl, ?_⟩
    refine ⟨fun g2 => ?_, fun g2 => ?_⟩
    · refine ⟨(mNot_ok _ _ _).mono ?_⟩
      rintro e w2 ⟨rfl, rfl⟩
      refine ⟨_, rfl, ?_⟩
      refine ⟨(rNot_ok _ _ _).mono ?_⟩
      rintro e w2 ⟨rfl, hU⟩
      replace hM := hM.upd hU
      clear hU
      refine ⟨_, rfl, ?_⟩
      refine ⟨fun g3 => ?_, fun g3 => ?_⟩
      · refine ⟨(mWithin_ok _ _ _).mono ?_⟩
        rintro e w2 ⟨rfl, rfl⟩
        refine ⟨_, rfl, ?_⟩
        refine ⟨(rNot_ok _ _ _).mono ?_⟩
        rintro e w2 ⟨rfl, hU⟩
        replace hM := hM.upd hU
        clear hU
        refine ⟨_, rfl, ?_⟩
        refine ⟨fun g4 => ?_, fun g4 => ?_⟩
        · refine ⟨(known_ok (hT.no hM.U)).mono ?_⟩
          rintro e w2 ⟨rfl, hU⟩
          replace hM := hM.upd hU
          clear hU
          refine ⟨_, rfl, ?_⟩
          exact ⟨rfl, hM.U⟩
        · first | (rw [beq_self_eq_true] at g4; cases g4; done) | (rw [mi_beq0, beq_self_eq_true] at g4; cases g4; done)
      · first | (rw [beq_self_eq_true] at g3; cases g3; done) | (rw [mi_beq0, beq_self_eq_true] at g3; cases g3; done)
    · first | (rw [beq_self_eq_true] at g2; cases g2; done) | (rw [mi_beq0, beq_self_eq_true] at g2; cases g2; done)
  · first | (rw [beq_self_eq_true] at g1; cases g1; done) | (rw [mi_beq0, beq_self_eq_true] at g1; cases g1; done)

theorem count_or (l : List Int) (p q : Int → Bool) : (l.filter (fun c => p c || q c)).length + (l.filter (fun c => p c && q c)).length = (l.filter p).length + (l.filter q).length := by
  induction l with
  | nil => rfl
  | cons x l ih => cases hp : p x <;> cases hq : q x <;> simp [hp, hq] <;> omega
theorem count_not (l : List Int) (p q : Int → Bool) : (l.filter (fun c => p c && !q c)).length + (l.filter (fun c => p c && q c)).length = (l.filter p).length := by
  induction l with
  | nil => rfl
  | cons x l ih => cases hp : p x <;> cases hq : q x <;> simp [hp, hq] <;> omega
theorem sums_ok (a b : BV) : (((cs (a ||| b)).length : Int) == IntKind.wrap .i64 (IntKind.wrap .i64 (((cs a).length : Int) + ((cs b).length : Int)) - ((cs (a &&& b)).length : Int))) = true ∧
    (((cs (a &&& ~~~ b)).length : Int) == IntKind.wrap .i64 (((cs a).length : Int) - ((cs (a &&& b)).length : Int))) = true := by
  have l1 := cs_len a
  have l2 := cs_len b
  have l3 := cs_len (a &&& b)
  have e1 : (cs (a ||| b)).length + (cs (a &&& b)).length = (cs a).length + (cs b).length := by
    unfold cs upto
    have := count_or ((List.range 64).map fun (i : Nat) => (i : Int)) (hs a) (hs b)
    simp only [← hs_or, ← hs_and] at this
    exact this
  have e2 : (cs (a &&& ~~~ b)).length + (cs (a &&& b)).length = (cs a).length := by
    unfold cs upto
    have := count_not ((List.range 64).map fun (i : Nat) => (i : Int)) (hs a) (hs b)
    simp only [← hs_not, ← hs_and] at this
    exact this
  rw [w64 (x := ((cs a).length : Int) + ((cs b).length : Int)) (by omega), w64 (by omega), w64 (by omega)]
  constructor <;> (rw [beq_iff_eq]; omega)
theorem maskSums_ok {W : World} (hT : Tab W) (a b : BV) : Calls Tryd.prog 6 #[.int .u64 (mi a), .int .u64 (mi b)] W fun e w' => e = .returned (.bool true) ∧ Upd no W w' := by
  have hM : Mine W W Non () := Mine.non W
  have hs := sums_ok a b
  refine u6 ?_
  rw [t6]
  refine ⟨(mOr_ok _ _ _).mono ?_⟩
  rintro e w2 ⟨rfl, rfl⟩
  refine ⟨_, rfl, ?_⟩
  refine ⟨(mMany_ok _ _).mono ?_⟩
  rintro e w2 ⟨rfl, rfl⟩
  refine ⟨_, rfl, ?_⟩
  refine ⟨(mMany_ok _ _).mono ?_⟩
  rintro e w2 ⟨rfl, rfl⟩
  refine ⟨_, rfl, ?_⟩
  refine ⟨(mMany_ok _ _).mono ?_⟩
  rintro e w2 ⟨rfl, rfl⟩
  refine ⟨_, rfl, ?_⟩
  refine ⟨(mAnd_ok _ _ _).mono ?_⟩
  rintro e w2 ⟨rfl, rfl⟩
  refine ⟨_, rfl, ?_⟩
  refine ⟨(mMany_ok _ _).mono ?_⟩
  rintro e w2 ⟨rfl, rfl⟩
  refine ⟨_, rfl, ?_⟩
  refine ⟨fun g1 => ?_, fun g1 => ?_⟩
  · refine ⟨(mNot_ok _ _ _).mono ?_⟩
    rintro e w2 ⟨rfl, rfl⟩
    refine ⟨_, rfl, ?_⟩
    refine ⟨(mMany_ok _ _).mono ?_⟩
    rintro e w2 ⟨rfl, rfl⟩
    refine ⟨_, rfl, ?_⟩
    refine ⟨(mMany_ok _ _).mono ?_⟩
    rintro e w2 ⟨rfl, rfl⟩
    refine ⟨_, rfl, ?_⟩
    refine ⟨(mAnd_ok _ _ _).mono ?_⟩
    rintro e w2 ⟨rfl, rfl⟩
    refine ⟨_, rfl, ?_⟩
    refine ⟨(mMany_ok _ _).mono ?_⟩
    rintro e w2 ⟨rfl, rfl⟩
    refine ⟨_, rfl, ?_⟩
    refine ⟨fun g2 => ?_, fun g2 => ?_⟩
    · refine ⟨(known_ok (hT.no hM.U)).mono ?_⟩
      rintro e w2 ⟨rfl, hU⟩
      replace hM := hM.upd hU
      clear hU
      refine ⟨_, rfl, ?_⟩
      exact ⟨rfl, hM.U⟩
    · first | (rw [hs.1] at g2; cases g2; done) | (rw [hs.2] at g2; cases g2; done)
  · first | (rw [hs.1] at g1; cases g1; done) | (rw [hs.2] at g1; cases g1; done)

theorem maskLists_ok {W : World} (hT : Tab W) (m : BV) {c : Int} (_ : (Lit.int .i64 c).wf = true) : Calls Tryd.prog 7 #[.int .u64 (mi m), .int .i64 c] W fun e w' => e = .returned (.bool true) ∧ Upd no W w' := by
  have hM : Mine W W Non () := Mine.non W
  refine u7 ?_
  rw [t7]
  refine ⟨(mFirst_ok _ (hT.no hM.U)).mono ?_⟩
  rintro e w2 ⟨rfl, rfl⟩
  refine ⟨_, _, rfl, ?_⟩
  refine ⟨(rFirst_ok _ _).mono ?_⟩
  rintro e w2 ⟨rfl, hU⟩
  replace hM := hM.upd hU
  clear hU
  refine ⟨_, _, rfl, ?_⟩
  refine ⟨(mLast_ok _ _).mono ?_⟩
  rintro e w2 ⟨rfl, rfl⟩
  refine ⟨_, _, rfl, ?_⟩
  refine ⟨(rLast_ok _ _).mono ?_⟩
  rintro e w2 ⟨rfl, hU⟩
  replace hM := hM.upd hU
  clear hU
  refine ⟨_, _, rfl, ?_⟩
  refine ⟨(mNext_ok _ _ (hT.no hM.U)).mono ?_⟩
  rintro e w2 ⟨rfl, rfl⟩
  refine ⟨_, _, rfl, ?_⟩
  refine ⟨(rNext_ok _ _ _).mono ?_⟩
  rintro e w2 ⟨rfl, hU⟩
  replace hM := hM.upd hU
  clear hU
  refine ⟨_, _, rfl, ?_⟩
  refine ⟨(mList_ok _ (hT.no hM.U)).mono ?_⟩
  rintro e w2 ⟨_, _, rfl, hL⟩
  have hC := hL.S.cells
  replace hM := hM.upd hL.U
  clear hL
  refine ⟨_, _, _, rfl, ?_⟩
  refine ⟨(mMany_ok _ _).mono ?_⟩
  rintro e w2 ⟨rfl, rfl⟩
  refine ⟨_, rfl, ?_⟩
  refine ⟨(rMany_ok _ _).mono ?_⟩
  rintro e w2 ⟨rfl, hU⟩
  replace hM := hM.upd hU
  replace hC := hC.no hU
  clear hU
  refine ⟨_, rfl, ?_⟩
  refine ⟨fun g1 => ?_, fun g1 => ?_⟩
  · refine ⟨(rList_ok _ _).mono ?_⟩
    rintro e w2 ⟨_, _, rfl, hL⟩
    replace hC := hC.no hL.U
    have hC2 := hL.S.cells
    replace hM := hM.upd hL.U
    clear hL
    refine ⟨_, _, _, rfl, ?_⟩
    refine ⟨(ints_ok hC hC2 (by have := cs_len m; omega)).mono ?_⟩
    rintro e w2 ⟨rfl, hU⟩
    replace hM := hM.upd hU
    replace hC := hC.no hU
    clear hU
    refine ⟨_, rfl, ?_⟩
    refine ⟨fun g2 => ?_, fun g2 => ?_⟩
    · refine ⟨fun g3 => ?_, fun g3 => ?_⟩
      · refine ⟨fun g4 => ?_, fun g4 => ?_⟩
        · refine ⟨fun g5 => ?_, fun g5 => ?_⟩
          · refine ⟨fun g6 => ?_, fun g6 => ?_⟩
            · refine ⟨fun g7 => ?_, fun g7 => ?_⟩
              · refine ⟨fun g8 => ?_, fun g8 => ?_⟩
                · refine ⟨(mOf_ok hC (by have := cs_len m; omega)).mono ?_⟩
                  rintro e w2 ⟨rfl, rfl⟩
                  refine ⟨_, rfl, ?_⟩
                  refine ⟨fun g9 => ?_, fun g9 => ?_⟩
                  · refine ⟨(known_ok (hT.no hM.U)).mono ?_⟩
                    rintro e w2 ⟨rfl, hU⟩
                    replace hM := hM.upd hU
                    clear hU
                    refine ⟨_, rfl, ?_⟩
                    exact ⟨rfl, hM.U⟩
                  · first | (rw [beq_self_eq_true] at g9; cases g9; done) | (rw [ofL_cs, beq_self_eq_true] at g9; cases g9; done) | (rw [decide_eq_true rfl] at g9; cases g9; done)
                · first | (rw [beq_self_eq_true] at g8; cases g8; done) | (rw [ofL_cs, beq_self_eq_true] at g8; cases g8; done) | (rw [decide_eq_true rfl] at g8; cases g8; done)
              · first | (rw [beq_self_eq_true] at g7; cases g7; done) | (rw [ofL_cs, beq_self_eq_true] at g7; cases g7; done) | (rw [decide_eq_true rfl] at g7; cases g7; done)
            · first | (rw [beq_self_eq_true] at g6; cases g6; done) | (rw [ofL_cs, beq_self_eq_true] at g6; cases g6; done) | (rw [decide_eq_true rfl] at g6; cases g6; done)
          · first | (rw [beq_self_eq_true] at g5; cases g5; done) | (rw [ofL_cs, beq_self_eq_true] at g5; cases g5; done) | (rw [decide_eq_true rfl] at g5; cases g5; done)
        · first | (rw [beq_self_eq_true] at g4; cases g4; done) | (rw [ofL_cs, beq_self_eq_true] at g4; cases g4; done) | (rw [decide_eq_true rfl] at g4; cases g4; done)
      · first | (rw [beq_self_eq_true] at g3; cases g3; done) | (rw [ofL_cs, beq_self_eq_true] at g3; cases g3; done) | (rw [decide_eq_true rfl] at g3; cases g3; done)
    · first | (rw [beq_self_eq_true] at g2; cases g2; done) | (rw [ofL_cs, beq_self_eq_true] at g2; cases g2; done) | (rw [decide_eq_true rfl] at g2; cases g2; done)
  · first | (rw [beq_self_eq_true] at g1; cases g1; done) | (rw [ofL_cs, beq_self_eq_true] at g1; cases g1; done) | (rw [decide_eq_true rfl] at g1; cases g1; done)

theorem maskMakes_ok {W : World} (hT : Tab W) (m : BV) {p : Option Addr} {l : List Int} {c : Nat} (_ : ∀ x ∈ l, (Lit.int .i64 x).wf = true) (h : Cells W p (l.map (Value.int .i64))) (_ : l.length ≤ maxLen) {n : Int} (_ : (Lit.int .i64 n).wf = true) :
    Calls Tryd.prog 3 #[.int .u64 (mi m), .slice p l.length c, .int .i64 n] W fun e w' => e = .returned (.bool true) ∧ Upd no W w' := by
  have hM : Mine W W Non () := Mine.non W
  refine u3 ?_
  rw [t3]
  refine ⟨fun g => ⟨(known_ok hT).mono ?_⟩, fun g => ?_⟩
  · rintro e w' ⟨rfl, hU⟩
    exact ⟨_, rfl, rfl, hU⟩
  · have hl : l.length ≤ 200 := by have := of_decide_eq_false g; omega
    refine ⟨WP_loop okProg (M := M3) (σ := Nat) (fun i => e3_1 (mi m) p l.length c n (mi ((l.take i).foldl wi m)) (i : Int)) (fun i w => i ≤ l.length ∧ w = W) (fun i _ => l.length - i) 0 ⟨rfl, rfl, rfl, rfl, rfl, trivial⟩ ⟨by omega, rfl⟩ ?_⟩
    rintro i w ⟨h1, rfl⟩
    rw [t3_1]
    refine ⟨fun g1 => ?_, fun g1 => CutD.mk ?_⟩
    · have hi : i < l.length := by simpa using g1
      obtain ⟨a, ha, hc⟩ := h.at1 hi
      refine ⟨⟨by omega, by omega⟩, a, ha, _, hc, ⟨(rWith_ok _ _ _).mono ?_⟩⟩
      rintro e w2 ⟨rfl, rfl⟩
      exact ⟨_, rfl, i + 1, ⟨rfl, rfl, rfl, by rw [foldl_take hi]; rfl, by rw [w64 (by omega)]; rfl, trivial⟩, ⟨by omega, rfl⟩, by omega⟩
    · have : i = l.length := by simp at g1; omega
      subst this
      rw [List.take_length, t3_0]
      refine ⟨(mOf_ok (h.no hM.U) (by omega)).mono ?_⟩
      rintro e w2 ⟨rfl, rfl⟩
      refine ⟨_, rfl, ?_⟩
      refine ⟨(rOf_ok (h.no hM.U) (by omega)).mono ?_⟩
      rintro e w2 ⟨rfl, rfl⟩
      refine ⟨_, rfl, ?_⟩
      refine ⟨fun g1 => ?_, fun g1 => ?_⟩
      · refine ⟨(mUpto_ok _ _).mono ?_⟩
        rintro e w2 ⟨rfl, rfl⟩
        refine ⟨_, rfl, ?_⟩
        refine ⟨(rUpto_ok _ _).mono ?_⟩
        rintro e w2 ⟨rfl, rfl⟩
        refine ⟨_, rfl, ?_⟩
        refine ⟨fun g2 => ?_, fun g2 => ?_⟩
        · refine ⟨(mWith_ok _ (h.no hM.U) (by omega)).mono ?_⟩
          rintro e w2 ⟨rfl, rfl⟩
          refine ⟨_, rfl, ?_⟩
          refine ⟨fun g3 => ?_, fun g3 => ?_⟩
          · refine ⟨(mLess_ok _ _ _).mono ?_⟩
            rintro e w2 ⟨rfl, rfl⟩
            refine ⟨_, rfl, ?_⟩
            refine ⟨(rLess_ok _ _ _).mono ?_⟩
            rintro e w2 ⟨rfl, rfl⟩
            refine ⟨_, rfl, ?_⟩
            refine ⟨fun g4 => ?_, fun g4 => ?_⟩
            · refine ⟨(mHas_ok _ _ _).mono ?_⟩
              rintro e w2 ⟨rfl, rfl⟩
              refine ⟨_, rfl, ?_⟩
              refine ⟨(rHas_ok _ _ _).mono ?_⟩
              rintro e w2 ⟨rfl, rfl⟩
              refine ⟨_, rfl, ?_⟩
              refine ⟨fun g5 => ?_, fun g5 => ?_⟩
              · refine ⟨(known_ok (hT.no hM.U)).mono ?_⟩
                rintro e w2 ⟨rfl, hU⟩
                replace hM := hM.upd hU
                clear hU
                refine ⟨_, rfl, ?_⟩
                exact ⟨rfl, hM.U⟩
              · rw [beq_self_eq_true] at g5; cases g5
            · rw [beq_self_eq_true] at g4; cases g4
          · rw [beq_self_eq_true] at g3; cases g3
        · rw [beq_self_eq_true] at g2; cases g2
      · rw [beq_self_eq_true] at g1; cases g1

/-! ### MaskRound -/

theorem cs_sorted (m : BV) : (cs m).Pairwise (· < ·) := by
  unfold cs upto
  refine List.Pairwise.filter _ (List.pairwise_map.2 ?_)
  exact List.pairwise_lt_range.imp fun h => by omega
/-- Behind the k-th one all are greater than c, ahead of it none is. -/
def CutAt (l : List Int) (c : Int) (k : Nat) : Prop := k ≤ l.length ∧ (∀ j (hj : j < l.length), j < k → l[j] ≤ c) ∧ ∀ j (hj : j < l.length), k ≤ j → c < l[j]
theorem cut_ex (c : Int) : ∀ {l : List Int}, l.Pairwise (· < ·) → ∃ k, CutAt l c k
  | [], _ => ⟨0, by simp, fun j hj => by simp at hj, fun j hj => by simp at hj⟩
  | a :: l, h => by
    rw [List.pairwise_cons] at h
    by_cases ha : c < a
    · refine ⟨0, by simp, fun j _ hj => by omega, fun j hj _ => ?_⟩
      cases j with
      | zero => exact ha
      | succ j =>
        have := h.1 (l[j]'(by simpa using hj)) (List.getElem_mem _)
        simp only [List.getElem_cons_succ]
        omega
    · obtain ⟨k, k1, k2, k3⟩ := cut_ex c h.2
      refine ⟨k + 1, by simpa using k1, fun j hj hjk => ?_, fun j hj hjk => ?_⟩
      · cases j with
        | zero => simp only [List.getElem_cons_zero]; omega
        | succ j => exact k2 j (by simpa using hj) (by omega)
      · cases j with
        | zero => omega
        | succ j => exact k3 j (by simpa using hj) (by omega)
theorem cut_at {l : List Int} (h : l.Pairwise (· < ·)) {k : Nat} (hk : k < l.length) : CutAt l l[k] (k + 1) := by
  rw [List.pairwise_iff_getElem] at h
  refine ⟨hk, fun j hj hjk => ?_, fun j hj hjk => h k j hk hj (by omega)⟩
  by_cases hjk' : j = k
  · subst hjk'; omega
  · have := h j k hj hk (by omega); omega
theorem cut_find {l : List Int} {c : Int} {k : Nat} (h : CutAt l c k) : l.find? (fun d => decide (d > c)) = l[k]? := by
  obtain ⟨h1, h2, h3⟩ := h
  conv => lhs; rw [← List.take_append_drop k l]
  rw [List.find?_append, List.find?_eq_none.2]
  · by_cases hk : k < l.length
    · rw [List.drop_eq_getElem_cons hk, List.find?_cons_of_pos (p := fun d => decide (d > c)) (by have := h3 k hk (by omega); simpa using this)]
      simp [hk]
    · rw [List.drop_eq_nil_of_le (by omega)]
      simp; omega
  · intro x hx
    obtain ⟨j, hj, rfl⟩ := List.mem_iff_getElem.1 hx
    rw [List.getElem_take]
    have hj' : j < k ∧ j < l.length := by simp at hj; omega
    have := h2 j hj'.2 hj'.1
    simp; omega
theorem next_cut {m : BV} {c : Int} {k : Nat} (h : CutAt (cs m) c k) : nextE m c = match (cs m)[k]? with | some d => (d, 0) | none => firstE m := by
  unfold nextE; rw [cut_find h]; cases (cs m)[k]? <;> rfl
/-- The cores behind one another, from a place on. -/
def rotL (l : List Int) (s : Nat) : List Int := l.drop s ++ l.take s
theorem rot_len {l : List Int} {s : Nat} (h : s ≤ l.length) : (rotL l s).length = l.length := by unfold rotL; simp; omega
theorem rot_at {l : List Int} {s : Nat} (h : s ≤ l.length) (i : Nat) : (rotL l s)[i]? = if i < l.length - s then l[s + i]? else if i < l.length then l[i - (l.length - s)]? else none := by
  unfold rotL
  by_cases h1 : i < l.length - s
  · rw [if_pos h1, List.getElem?_append_left (by simpa using h1), List.getElem?_drop]
  · rw [if_neg h1, List.getElem?_append_right (by simp; omega), List.length_drop, List.getElem?_take]
    by_cases h2 : i < l.length
    · rw [if_pos h2, if_pos (by omega)]
    · rw [if_neg h2, if_neg (by omega)]
theorem first_at {m : BV} (h : 0 < (cs m).length) : firstE m = ((cs m)[0], 0) := by
  unfold firstE
  revert h
  generalize cs m = l
  intro h
  cases l with
  | nil => simp at h
  | cons a l => rfl
theorem round0 {m : BV} {c : Int} {s : Nat} (h : CutAt (cs m) c s) (h0 : 0 < (cs m).length) : nextE m c = ((rotL (cs m) s)[0]'(by rw [rot_len h.1]; exact h0), 0) := by
  have e : (rotL (cs m) s)[0]? = some ((rotL (cs m) s)[0]'(by rw [rot_len h.1]; exact h0)) := by simp [rot_len h.1, h0]
  rw [rot_at h.1] at e
  rw [next_cut h]
  by_cases hs : s < (cs m).length
  · rw [if_pos (by omega), Nat.add_zero, List.getElem?_eq_getElem hs] at e
    rw [List.getElem?_eq_getElem hs]
    have := Option.some.inj e
    rw [← this]
  · rw [if_neg (by omega), if_pos h0, Nat.zero_sub, List.getElem?_eq_getElem h0] at e
    rw [List.getElem?_eq_none (by omega), first_at h0]
    have := Option.some.inj e
    rw [← this]
theorem round1 {m : BV} {s i : Nat} (h : s ≤ (cs m).length) (hi : i + 1 < (rotL (cs m) s).length) : nextE m ((rotL (cs m) s)[i]) = ((rotL (cs m) s)[i + 1], 0) := by
  have hn : i + 1 < (cs m).length := by rw [rot_len h] at hi; exact hi
  have e : (rotL (cs m) s)[i]? = some ((rotL (cs m) s)[i]) := List.getElem?_eq_getElem _
  have e1 : (rotL (cs m) s)[i + 1]? = some ((rotL (cs m) s)[i + 1]) := List.getElem?_eq_getElem _
  rw [rot_at h] at e e1
  generalize (rotL (cs m) s)[i] = x at *
  generalize (rotL (cs m) s)[i + 1] = y at *
  have hso := cs_sorted m
  by_cases h1 : i < (cs m).length - s
  · rw [if_pos h1, List.getElem?_eq_getElem (show s + i < (cs m).length by omega)] at e
    have e := Option.some.inj e
    rw [← e, next_cut (cut_at hso (show s + i < (cs m).length by omega))]
    by_cases h2 : i + 1 < (cs m).length - s
    · rw [if_pos h2] at e1
      rw [show s + i + 1 = s + (i + 1) by omega, e1]
    · rw [if_neg h2, if_pos hn, show i + 1 - ((cs m).length - s) = 0 by omega, List.getElem?_eq_getElem (show 0 < (cs m).length by omega)] at e1
      rw [List.getElem?_eq_none (by omega), first_at (by omega)]
      rw [← Option.some.inj e1]
  · rw [if_neg h1, if_pos (by omega), List.getElem?_eq_getElem (show i - ((cs m).length - s) < (cs m).length by omega)] at e
    have e := Option.some.inj e
    rw [← e, next_cut (cut_at hso (show i - ((cs m).length - s) < (cs m).length by omega))]
    rw [if_neg (by omega), if_pos hn] at e1
    rw [show i - ((cs m).length - s) + 1 = i + 1 - ((cs m).length - s) by omega, e1]
theorem rot_mem {l : List Int} {s : Nat} (x : Int) : x ∈ rotL l s ↔ x ∈ l := by
  unfold rotL
  rw [List.mem_append, Or.comm, ← List.mem_append, List.take_append_drop]
theorem rot_nodup {l : List Int} (h : l.Nodup) (s : Nat) : (rotL l s).Nodup := by
  unfold rotL
  have h2 : (l.take s ++ l.drop s).Nodup := by rw [List.take_append_drop]; exact h
  rw [List.nodup_append] at h2 ⊢
  exact ⟨h2.2.1, h2.1, fun a ha b hb e => h2.2.2 b hb a ha e.symm⟩

theorem maskRound_ok {W : World} (hT : Tab W) (m : BV) {c : Int} (_ : (Lit.int .i64 c).wf = true) : Calls Tryd.prog 5 #[.int .u64 (mi m), .int .i64 c] W fun e w' => e = .returned (.bool true) ∧ Upd no W w' := by
  refine u5 ?_
  rw [t5]
  obtain ⟨s, hcut⟩ := cut_ex c (cs_sorted m)
  have hlen := rot_len hcut.1
  have hnd : (rotL (cs m) s).Nodup := rot_nodup ((cs_sorted m).imp fun h => by omega) s
  have hl := cs_len m
  refine ⟨WP_loop okProg (M := M5) (σ := Nat × Int) (fun x => e5_1 (mi m) (mi (ofL ((rotL (cs m) s).take x.1))) x.2 (x.1 : Int))
    (fun x w => x.1 ≤ (cs m).length ∧ (∀ hx : x.1 < (rotL (cs m) s).length, nextE m x.2 = ((rotL (cs m) s)[x.1], 0)) ∧ Upd no W w) (fun x _ => (cs m).length - x.1) (0, c) ⟨rfl, rfl, rfl, rfl, trivial⟩
    ⟨by simp, fun hx => round0 hcut (by rw [hlen] at hx; exact hx), Upd.refl _ _⟩ ?_⟩
  rintro ⟨i, at'⟩ w ⟨h1, h2, hU⟩
  simp only at h1 h2 ⊢
  rw [t5_1]
  refine ⟨(mMany_ok m w).mono ?_⟩
  rintro e w1 ⟨rfl, rfl⟩
  refine ⟨_, rfl, fun g => ?_, fun g => CutD.mk ?_⟩
  · have hi : i < (rotL (cs m) s).length := by rw [hlen]; simpa using g
    have h2 := h2 hi
    refine ⟨(mNext_ok m at' (hT.no hU)).mono ?_⟩
    rintro e w2 ⟨rfl, rfl⟩
    rw [h2]
    refine ⟨_, _, rfl, fun _ => ⟨(mHas_ok _ _ _).mono ?_⟩, fun g => by simp at g⟩
    rintro e w3 ⟨rfl, rfl⟩
    refine ⟨_, rfl, fun _ => ⟨(mHas_ok _ _ _).mono ?_⟩, fun g3 => ?_⟩
    · rintro e w4 ⟨rfl, rfl⟩
      have hm : hs m (rotL (cs m) s)[i] = true := mem_cs.1 ((rot_mem _).1 (List.getElem_mem hi))
      refine ⟨_, rfl, fun g => (by rw [hm] at g; cases g), fun _ => ⟨fun w5 hN => ⟨(mWith_ok _ (l := [(rotL (cs m) s)[i]]) (Sl.new (n := 1) (sz := 1) hN (by simp) (by unfold maxLen; omega)).cells (by simp)).mono ?_⟩⟩⟩
      rintro e w6 ⟨rfl, rfl⟩
      refine ⟨_, rfl, (i + 1, (rotL (cs m) s)[i]), ⟨rfl, ?_, rfl, by rw [w64 (by omega)]; rfl, trivial⟩, ⟨by simp only; rw [hlen] at hi; omega, fun hx => round1 hcut.1 hx, hU.and (hN.upd no)⟩, by simp only; rw [hlen] at hi; omega⟩
      show some (Value.int .u64 (mi (wi (ofL ((rotL (cs m) s).take i)) (rotL (cs m) s)[i]))) = some (Value.int .u64 (mi (ofL ((rotL (cs m) s).take (i + 1)))))
      unfold ofL
      rw [foldl_take hi]
    · rw [hs_ofL, Bool.and_eq_true] at g3
      have hmem := of_decide_eq_true g3.2
      obtain ⟨j, hj, he⟩ := List.mem_iff_getElem.1 hmem
      have hj2 : j < i := by simp at hj; omega
      rw [List.getElem_take] at he
      have h3 := (List.getElem?_inj (i := i) (j := j) hi hnd).1 (by rw [List.getElem?_eq_getElem hi, List.getElem?_eq_getElem (i := j) (by omega)]; exact congrArg some he.symm)
      omega
  · have : i = (cs m).length := by have := of_decide_eq_false g; omega
    subst this
    rw [t5_0, List.take_of_length_le (by omega)]
    have e : ofL (rotL (cs m) s) = m := ext_hs fun d h0 h64 => by
      rw [hs_ofL, Bool.eq_iff_iff]
      simp only [Bool.and_eq_true, decide_eq_true_iff, rot_mem, mem_cs]
      exact ⟨fun h => h.2, fun h => ⟨⟨h0, h64⟩, h⟩⟩
    rw [e]
    refine ⟨fun _ => ⟨(known_ok (hT.no hU)).mono ?_⟩, fun g => by simp at g⟩
    rintro e w2 ⟨rfl, hU2⟩
    exact ⟨_, rfl, rfl, hU.and hU2⟩
end Go.Dav
