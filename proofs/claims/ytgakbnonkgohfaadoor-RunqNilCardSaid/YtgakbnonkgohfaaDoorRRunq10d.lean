/- What the document's functions of the cores' queues come to. -/
import Derived.Test.YtgakbnonkgohfaaDoorRqB10d
import Derived.Test.YtgakbnonkgohfaaDoorRPrio10d
set_option linter.unusedVariables false
set_option linter.unusedSimpArgs false
namespace Go.Dav
open Go.Proofs
theorem elRp : ElemT Tryd.prog 58 61 1 8 [.pointer none] := ⟨by kernel_rfl, by kernel_rfl, rfl, by omega⟩
def rrE (p : Option Addr) (n c : Nat) : List Value := [.slice p n c]
abbrev RrO (b : Nat) : Ob RS := Tq RpO b 60 61 rrE
section
variable {b : Nat} {w : World} {F : Fp} {x : RS}
theorem rrIs_ok (h : RrO b w F x) (c : Int) : Calls Tryd.prog 39 #[.pointer (some ⟨b, 0, none⟩), .int .i64 c] w fun e w' => e = .returned (.bool (decide (inQ x c))) ∧ w' = w := by
  obtain ⟨p, c1, hB⟩ := h.blk
  refine u39 ?_
  rw [t39]
  refine ⟨fun g => ⟨_, rfl, _, _, _, hB.cell rfl, ?_, rfl⟩, fun g => ⟨?_, rfl⟩⟩
  · congr 3
    have g := of_decide_eq_true g
    unfold inQ
    rw [eq_iff_iff]
    omega
  · have g := of_decide_eq_false g
    rw [decide_eq_false (by unfold inQ; omega)]
theorem rrWhere_ok (h : RrO b w F x) (hW : RqW x) (hl : x.length ≤ 64) (k : Int) : Calls Tryd.prog 10 #[.pointer (some ⟨b, 0, none⟩), .int .i64 k] w fun e w' => e = .returned (.tuple #[.int .i64 (whE x k).1, .bool (whE x k).2]) ∧ w' = w := by
  obtain ⟨p, c1, hB⟩ := h.blk
  refine u10 ?_
  rw [t10]
  refine ⟨WP_loop okProg (M := M10) (σ := Nat) (fun j => e10_1 (some ⟨b, 0, none⟩) k (j : Int)) (fun j w' => j ≤ x.length ∧ (∀ i, i < j → memQ x i k = false) ∧ w' = w) (fun j _ => x.length - j) 0 ⟨rfl, rfl, rfl, trivial⟩ ⟨by omega, fun i h => by omega, rfl⟩ ?_⟩
  rintro j w' ⟨k1, k2, rfl⟩
  rw [t10_1]
  refine ⟨_, rfl, _, _, _, hB.cell rfl, fun g => ?_, fun g => ?_⟩
  · have hj : j < x.length := by simp at g; omega
    obtain ⟨a, c, bi, F1, hB2, hc, hq, _⟩ := h.at hj
    refine ⟨_, rfl, _, _, _, hB2.cell rfl, ⟨by omega, by omega⟩, a, rfl, _, hc, ⟨(rpPrio_ok hq (hW.V j hj).len k).mono ?_⟩⟩
    rintro e w2 ⟨rfl, rfl⟩
    rw [prio_snd]
    refine ⟨_, _, rfl, fun g => ⟨?_, rfl⟩, fun g => ⟨j + 1, ⟨rfl, rfl, by rw [w64 (by omega)]; rfl, trivial⟩, ⟨by omega, fun i hi => ?_, rfl⟩, by omega⟩⟩
    · rw [hW.wh (by rw [memQ_at hj]; exact g)]
    · by_cases hij : i = j
      · subst hij; rw [memQ_at hj]; exact g
      · exact k2 i (by omega)
  · have : j = x.length := by simp at g; omega
    subst this
    refine ⟨?_, rfl⟩
    rcases whE_cases x k with ⟨h1, _⟩ | ⟨i, hi, _, h2⟩
    · rw [h1]
    · rw [k2 i hi] at h2; cases h2
theorem rrPrio_ok (h : RrO b w F x) (hW : RqW x) (hl : x.length ≤ 64) (k : Int) : Calls Tryd.prog 12 #[.pointer (some ⟨b, 0, none⟩), .int .i64 k] w fun e w' => e = .returned (.tuple #[.int .i64 (rqPrioE x k).1, .bool (rqPrioE x k).2]) ∧ w' = w := by
  refine u12 ?_
  rw [t12]
  refine ⟨(rrWhere_ok h hW hl k).mono ?_⟩
  rintro e w1 ⟨rfl, rfl⟩
  unfold rqPrioE
  rcases whE_cases x k with ⟨h1, h2⟩ | ⟨i, hl, h1, h2⟩
  · rw [h1]
    exact ⟨_, _, rfl, fun _ => ⟨rfl, rfl⟩, fun g => by simp at g⟩
  · rw [h1]
    obtain ⟨a, c, bi, F1, hB, hc, hq, _⟩ := h.at hl
    simp only [rowQ_at hl, if_true]
    refine ⟨_, _, rfl, fun g => by simp at g, fun _ => ⟨_, rfl, _, _, _, hB.cell rfl, ⟨by omega, by omega⟩, a, rfl, _, hc, ⟨(rpPrio_ok hq (hW.V i hl).len k).mono ?_⟩⟩⟩
    rintro e w2 ⟨rfl, rfl⟩
    exact ⟨_, _, rfl, rfl, rfl⟩
theorem rrList_ok (h : RrO b w F x) (hW : RqW x) (c : Int) : Calls Tryd.prog 17 #[.pointer (some ⟨b, 0, none⟩), .int .i64 c] w fun e w' => ∃ p d, e = .returned (.slice p (rqListE x c).length d) ∧ Loc w w' 3 p d (rqListE x c) := by
  refine u17 ?_
  rw [t17]
  refine ⟨(rrIs_ok h c).mono ?_⟩
  rintro e w1 ⟨rfl, rfl⟩
  unfold rqListE
  by_cases hc : inQ x c
  · rw [if_pos hc, decide_eq_true hc]
    obtain ⟨i, hl, rfl⟩ := inQ_at hc
    obtain ⟨a, c, bi, F1, hB, hcl, hq, _⟩ := h.at hl
    rw [rowQ_at hl]
    refine ⟨_, rfl, fun g => by simp at g, fun _ => ⟨_, rfl, _, _, _, hB.cell rfl, ⟨by omega, by omega⟩, a, rfl, _, hcl, ⟨(rpList_ok hq (hW.V i hl).len).mono ?_⟩⟩⟩
    rintro e w2 ⟨p, d, rfl, hL⟩
    exact ⟨_, _, _, rfl, p, d, rfl, hL⟩
  · rw [if_neg hc, decide_eq_false hc]
    exact ⟨_, rfl, fun _ => ⟨none, 0, rfl, Loc.nil (Upd.refl _ _) _⟩, fun g => by simp at g⟩
theorem rrLoad_ok (h : RrO b w F x) (hW : RqW x) (c : Int) : Calls Tryd.prog 14 #[.pointer (some ⟨b, 0, none⟩), .int .i64 c] w fun e w' => e = .returned (.int .i64 (rqLoadE x c)) ∧ Upd no w w' := by
  refine u14 ?_
  rw [t14]
  refine ⟨(rrList_ok h hW c).mono ?_⟩
  rintro e w1 ⟨p, d, rfl, hL⟩
  refine ⟨_, _, _, rfl, ?_, hL.U⟩
  unfold rqLoadE rqListE
  by_cases hc : inQ x c
  · rw [if_pos hc, if_pos hc]
    obtain ⟨i, hl, rfl⟩ := inQ_at hc
    rw [rowQ_at hl, list_all (hW.V i hl)]
  · rw [if_neg hc, if_neg hc]; rfl
theorem rrPut_ok (h : RrO b w F x) (hW : RqW x) (hl64 : x.length ≤ 64) (c p k : Int) : Calls Tryd.prog 29 #[.pointer (some ⟨b, 0, none⟩), .int .i64 c, .int .i64 p, .int .i64 k] w fun e w' => e = .returned (.int .i64 (rqPutE x c p k)) ∧ Turn (RrO b) w w' F (rqPutS x c p k) := by
  refine u29 ?_
  rw [t29]
  refine ⟨(rrIs_ok h c).mono ?_⟩
  rintro e w1 ⟨rfl, rfl⟩
  unfold rqPutS rqPutE
  by_cases hc : inQ x c
  · simp only [if_pos hc, decide_eq_true hc]
    refine ⟨_, rfl, fun g => by simp at g, fun _ => ⟨(rrWhere_ok h hW hl64 k).mono ?_⟩⟩
    rintro e w1 ⟨rfl, rfl⟩
    cases hw : (whE x k).2 with
    | true => exact ⟨_, _, rfl, fun _ => ⟨by first | rfl | trivial, Turn.same h⟩, fun g => by simp at g⟩
    | false =>
      obtain ⟨i, hl, rfl⟩ := inQ_at hc
      obtain ⟨a, c, bi, F1, hB, hcl, hq, kq⟩ := h.at hl
      rw [rowQ_at hl]
      refine ⟨_, _, rfl, fun g => by simp at g, fun _ => ⟨_, rfl, _, _, _, hB.cell rfl, ⟨by omega, by omega⟩, a, rfl, _, hcl, ⟨(rpPush_ok hq (hW.V i hl).len p k).mono ?_⟩⟩⟩
      rintro e w2 ⟨rfl, hT⟩
      have hT2 := kq _ _ hT
      refine ⟨_, rfl, by simp, ?_⟩
      simp only [Bool.false_eq_true, if_false, Int.toNat_natCast]
      by_cases g2 : pqPushE x[i] p k = 0
      · rw [if_pos g2]; exact hT2
      · rw [if_neg g2]
        rw [pqPushS, if_neg g2, List.set_getElem_self] at hT2
        exact hT2
  · simp only [if_neg hc, decide_eq_false hc]
    exact ⟨_, rfl, fun _ => ⟨by first | rfl | trivial, Turn.same h⟩, fun g => by simp at g⟩
theorem rrPick_ok (h : RrO b w F x) (hW : RqW x) (c : Int) : Calls Tryd.prog 30 #[.pointer (some ⟨b, 0, none⟩), .int .i64 c] w fun e w' => e = .returned (.tuple #[.int .i64 (rqPickE x c).1, .int .i64 (rqPickE x c).2]) ∧ Turn (RrO b) w w' F (rqPickS x c) := by
  refine u30 ?_
  rw [t30]
  refine ⟨(rrIs_ok h c).mono ?_⟩
  rintro e w1 ⟨rfl, rfl⟩
  unfold rqPickS rqPickE
  by_cases hc : inQ x c
  · simp only [if_pos hc, decide_eq_true hc]
    obtain ⟨i, hl, rfl⟩ := inQ_at hc
    obtain ⟨a, c, bi, F1, hB, hcl, hq, kq⟩ := h.at hl
    have hV := hW.V i hl
    rw [rowQ_at hl]
    refine ⟨_, rfl, fun g => by simp at g, fun _ => ⟨_, rfl, _, _, _, hB.cell rfl, ⟨by omega, by omega⟩, a, rfl, _, hcl, ⟨(rpTop_ok hq hV.len).mono ?_⟩⟩⟩
    rintro e w2 ⟨rfl, hU⟩
    refine ⟨_, _, rfl, fun g1 => ?_, fun g1 => ?_⟩
    · have g1 : (topE x[i]).2 = 0 := by simpa using g1
      have h2 : RrO b w2 F x := Frame.tq.upd h hU (fun _ _ h => h)
      obtain ⟨a2, c2, bi2, F2, hB2, hcl2, hq2, kq2⟩ := h2.at hl
      refine ⟨_, rfl, _, _, _, hB2.cell rfl, ⟨by omega, by omega⟩, a2, rfl, _, hcl2, ⟨(rpTurn_ok hq2 hV.len hV.one).mono ?_⟩⟩
      rintro e w3 ⟨rfl, hT⟩
      rw [Int.toNat_natCast]
      exact ⟨_, rfl, rfl, Turn.next h2 hU.none (fun _ h => .inl h) (kq2 _ _ hT)⟩
    · have g1 : (topE x[i]).2 ≠ 0 := by simpa using g1
      have e2 : pqTurnS x[i] = x[i] := by rw [pqTurnS, pqTurnE, if_neg g1]
      rw [e2, Int.toNat_natCast, List.set_getElem_self]
      exact ⟨rfl, Turn.quiet h hU⟩
  · simp only [if_neg hc, decide_eq_false hc]
    exact ⟨_, rfl, fun _ => ⟨by first | rfl | trivial, Turn.same h⟩, fun g => by simp at g⟩
theorem rrBack_ok (h : RrO b w F x) (hW : RqW x) (hl64 : x.length ≤ 64) (k : Int) : Calls Tryd.prog 31 #[.pointer (some ⟨b, 0, none⟩), .int .i64 k] w fun e w' => e = .returned (.int .i64 (rqBackE x k)) ∧ Turn (RrO b) w w' F (rqBackS x k) := by
  refine u31 ?_
  rw [t31]
  refine ⟨(rrWhere_ok h hW hl64 k).mono ?_⟩
  rintro e w1 ⟨rfl, rfl⟩
  unfold rqBackE rqBackS
  rcases whE_cases x k with ⟨h1, h2⟩ | ⟨i, hl, h1, h2⟩
  · rw [h1]
    exact ⟨_, _, rfl, fun _ => ⟨rfl, Turn.same h⟩, fun g => by simp at g⟩
  · rw [h1]
    obtain ⟨a, c, bi, F1, hB, hc, hq, kq⟩ := h.at hl
    have hV := hW.V i hl
    simp only [if_true, Int.toNat_natCast, rowQ_at hl]
    refine ⟨_, _, rfl, fun g => by simp at g, fun _ => ⟨_, rfl, _, _, _, hB.cell rfl, ⟨by omega, by omega⟩, a, rfl, _, hc, ⟨(rpBack_ok hq hV.len hV.one k).mono ?_⟩⟩⟩
    rintro e w2 ⟨rfl, hT⟩
    have hin : inE x[i] k = true := by rw [← memQ_at hl]; exact h2
    exact ⟨_, rfl, by rw [pqBackE, pqDropE, hin]; rfl, kq _ _ hT⟩
theorem rrTake_ok (h : RrO b w F x) (hW : RqW x) (hl64 : x.length ≤ 64) (k : Int) : Calls Tryd.prog 32 #[.pointer (some ⟨b, 0, none⟩), .int .i64 k] w fun e w' => e = .returned (.int .i64 (rqTakeE x k)) ∧ Turn (RrO b) w w' F (rqTakeS x k) := by
  refine u32 ?_
  rw [t32]
  refine ⟨(rrWhere_ok h hW hl64 k).mono ?_⟩
  rintro e w1 ⟨rfl, rfl⟩
  unfold rqTakeE rqTakeS
  rcases whE_cases x k with ⟨h1, h2⟩ | ⟨i, hl, h1, h2⟩
  · rw [h1]
    exact ⟨_, _, rfl, fun _ => ⟨rfl, Turn.same h⟩, fun g => by simp at g⟩
  · rw [h1]
    obtain ⟨a, c, bi, F1, hB, hc, hq, kq⟩ := h.at hl
    have hV := hW.V i hl
    simp only [if_true, Int.toNat_natCast, rowQ_at hl]
    refine ⟨_, _, rfl, fun g => by simp at g, fun _ => ⟨_, rfl, _, _, _, hB.cell rfl, ⟨by omega, by omega⟩, a, rfl, _, hc, ⟨(rpDrop_ok hq hV.len hV.one k).mono ?_⟩⟩⟩
    rintro e w2 ⟨rfl, hT⟩
    have hin : inE x[i] k = true := by rw [← memQ_at hl]; exact h2
    rw [hin, if_pos rfl] at hT
    exact ⟨_, rfl, by rw [pqDropE, hin]; rfl, kq _ _ hT⟩
theorem rrMove_ok (h : RrO b w F x) (hW : RqW x) (f t : Int) : Calls Tryd.prog 33 #[.pointer (some ⟨b, 0, none⟩), .int .i64 f, .int .i64 t] w fun e w' => e = .returned (.tuple #[.int .i64 (rqMoveE x f t).1, .int .i64 (rqMoveE x f t).2]) ∧ Turn (RrO b) w w' F (rqMoveS x f t) := by
  refine u33 ?_
  rw [t33]
  refine ⟨(rrIs_ok h f).mono ?_⟩
  rintro e w1 ⟨rfl, rfl⟩
  by_cases hf : inQ x f
  · rw [decide_eq_true hf]
    refine ⟨_, rfl, fun _ => ⟨(rrIs_ok h t).mono ?_⟩, fun g => by simp at g⟩
    rintro e w2 ⟨rfl, rfl⟩
    by_cases ht : inQ x t
    · rw [decide_eq_true ht]
      refine ⟨_, rfl, fun g => by simp at g, fun _ => ⟨fun g1 => ?_, fun g1 => ⟨(rrList_ok h hW f).mono ?_⟩⟩⟩
      · have g1 := eq_of_beq g1
        rw [rqMoveE, rqMoveS, if_pos ⟨hf, ht⟩, if_pos g1, if_neg (fun h => h.2.2.1 g1)]
        exact ⟨rfl, Turn.same h⟩
      rintro e w3 ⟨p, d, rfl, hL⟩
      have g1 := ne_of_beq_false g1
      have hU := hL.U
      refine ⟨_, _, _, rfl, fun g2 => ?_, fun g2 => ?_⟩
      · have g2 : listOf (rowQ x f).2 = [] := by
          rw [rqListE, if_pos hf] at g2
          exact List.eq_nil_of_length_eq_zero (by have := eq_of_beq g2; omega)
        rw [rqMoveE, rqMoveS, if_pos ⟨hf, ht⟩, if_neg g1, if_pos g2, if_neg (fun h => h.2.2.2.1 g2)]
        exact ⟨rfl, Turn.quiet h hU⟩
      · have e0 : rqListE x f = listOf (rowQ x f).2 := by rw [rqListE, if_pos hf]
        rw [e0] at g2 hL ⊢
        have g2 : listOf (rowQ x f).2 ≠ [] := fun e => by rw [e] at g2; simp at g2
        obtain ⟨i, hfl, rfl⟩ := inQ_at hf
        obtain ⟨j, htl, rfl⟩ := inQ_at ht
        have hij : i ≠ j := fun e => g1 (by rw [e])
        rw [rqMoveE, rqMoveS, if_pos ⟨hf, ht⟩, if_neg g1, if_neg g2]
        rw [rowQ_at hfl] at g2 hL ⊢
        rw [rowQ_at htl]
        have hVf := hW.V i hfl
        have hVt := hW.V j htl
        have hlp := List.length_pos_iff.2 g2
        have hll := list_all hVf
        have hVl := hVf.len
        have hmem : inE x[i] (endE (listOf x[i].2)) = true := (in_list hVf).1 (by rw [endE_at g2]; exact List.getElem_mem _)
        obtain ⟨a, ha, hc⟩ := hL.S.cells.at1 (i := (listOf x[i].2).length - 1) (by omega)
        rw [← endE_at g2] at hc
        obtain ⟨id, hid⟩ : ∃ id, endE (listOf x[i].2) = id := ⟨_, rfl⟩
        rw [hid] at hc hmem ⊢
        have ew : IntKind.wrap .i64 (((listOf x[i].2).length : Int) - 1) = (((listOf x[i].2).length - 1 : Nat) : Int) := by rw [w64 (by omega)]; omega
        rw [ew]
        have h3 : RrO b w3 F x := Frame.tq.upd h hU (fun _ _ h => h)
        have hTn : ∀ {w' s'}, Turn (RrO b) w3 w' F s' → Turn (RrO b) w2 w' F s' := fun hT => Turn.next h3 hU.none (fun _ h => .inl h) hT
        obtain ⟨a2, c2, bf, F2, hB2, hcl2, hq2, _⟩ := h3.at hfl
        refine ⟨⟨by omega, by omega⟩, a, ha, _, hc, _, rfl, _, _, _, hB2.cell rfl, ⟨by omega, by omega⟩, a2, rfl, _, hcl2, ⟨(rpPrio_ok hq2 hVl id).mono ?_⟩⟩
        rintro e w4 ⟨rfl, rfl⟩
        obtain ⟨a3, c3, bt, F3, hB3, hcl3, hq3, kq3⟩ := h3.at htl
        refine ⟨_, _, rfl, _, rfl, _, _, _, hB3.cell rfl, ⟨by omega, by omega⟩, a3, rfl, _, hcl3, ⟨(rpPush_ok hq3 hVt.len _ id).mono ?_⟩⟩
        rintro e w5 ⟨rfl, hT5⟩
        refine ⟨_, rfl, fun g3 => ?_, fun g3 => ?_⟩
        · have g3 : ¬ pqPushE x[j] (prioE x[i] id).1 id = 0 := by simpa using g3
          rw [if_neg g3, if_neg (fun h => g3 h.2.2.2.2)]
          have hT := kq3 _ _ hT5
          rw [pqPushS, if_neg g3, List.set_getElem_self] at hT
          exact ⟨rfl, hTn hT⟩
        · have g3 : pqPushE x[j] (prioE x[i] id).1 id = 0 := by simpa using g3
          rw [if_pos g3, if_pos ⟨hf, ht, g1, g2, g3⟩]
          obtain ⟨F5, hx5, u5, f5⟩ := kq3 _ _ hT5
          have hfl5 : i < (x.set j (pqPushS x[j] (prioE x[i] id).1 id)).length := by simpa using hfl
          have ei : (x.set j (pqPushS x[j] (prioE x[i] id).1 id))[i] = x[i] := by rw [List.getElem_set_ne (Ne.symm hij)]
          obtain ⟨a7, c7, bf, F7, hB7, hcl7, hq7, kq7⟩ := Tq.at hx5 hfl5
          rw [ei] at hq7
          have hl5 : (x.set j (pqPushS x[j] (prioE x[i] id).1 id)).length = x.length := by simp
          refine ⟨_, rfl, _, _, _, hB7.cell rfl, ⟨by omega, by omega⟩, a7, rfl, _, hcl7, ⟨(rpDrop_ok hq7 hVl hVf.one id).mono ?_⟩⟩
          rintro e w7 ⟨rfl, hT7⟩
          rw [hmem, if_pos rfl] at hT7
          refine ⟨_, rfl, rfl, ?_⟩
          exact hTn (Turn.glue (Upd.refl _ _) u5 f5 (kq7 _ _ hT7))
    · rw [decide_eq_false ht]
      rw [rqMoveE, rqMoveS, if_neg (fun h => ht h.2), if_neg (fun h => ht h.2.1)]
      exact ⟨_, rfl, fun _ => ⟨rfl, Turn.same h⟩, fun g => by simp at g⟩
  · rw [decide_eq_false hf]
    rw [rqMoveE, rqMoveS, if_neg (fun h => hf h.1), if_neg (fun h => hf h.1)]
    exact ⟨_, rfl, fun g => by simp at g, fun _ => ⟨rfl, Turn.same h⟩⟩

def gtOf (most : Bool) : Int → Int → Bool := if most then gtB else ltB
theorem rrbest_ok (h : RrO b w F x) (hW : RqW x) (hl64 : x.length ≤ 64) (m : BV) (most : Bool) : Calls Tryd.prog 43 #[.pointer (some ⟨b, 0, none⟩), .int .u64 (mi m), .bool most] w fun e w' => e = .returned (.tuple #[.int .i64 (bestQ (rqLoadE x) (gtOf most) (upto (hs m) x.length)).1, .int .i64 (bestQ (rqLoadE x) (gtOf most) (upto (hs m) x.length)).2]) ∧ Upd no w w' := by
  refine u43 ?_
  rw [t43]
  refine ⟨WP_loop okProg (M := M43) (σ := Nat) (fun j => e43_1 (some ⟨b, 0, none⟩) (mi m) most ((bestF (rqLoadE x) (gtOf most) (upto (hs m) j)).getD (-1)) (j : Int)) (fun j w' => j ≤ x.length ∧ Upd no w w') (fun j _ => x.length - j) 0 ⟨rfl, rfl, rfl, rfl, rfl, trivial⟩ ⟨by omega, Upd.refl _ _⟩ ?_⟩
  rintro j w1 ⟨j1, hU⟩
  rw [t43_1]
  have h1 : RrO b w1 F x := Frame.tq.upd h hU (fun _ _ h => h)
  obtain ⟨p, c1, hB⟩ := h1.blk
  have hpos : ∀ a, bestF (rqLoadE x) (gtOf most) (upto (hs m) j) = some a → 0 ≤ a := fun a ha => by
    rcases bestF_in (rqLoadE x) (gtOf most) (upto (hs m) j) with ⟨k1, _⟩ | ⟨a', k1, k2⟩
    · rw [k1] at ha; cases ha
    · rw [k2] at ha
      have := Option.some.inj ha
      subst this
      exact (mem_upto.1 k1).1
  refine ⟨_, rfl, _, _, _, hB.cell rfl, fun g => ?_, fun g => ?_⟩
  · have hj : j < x.length := by simp at g; omega
    refine ⟨(rHas_ok m _ w1).mono ?_⟩
    rintro e w2 ⟨rfl, rfl⟩
    have hup := upto_succ (hs m) j
    have next : ∀ w' v, Upd no w w' → (bestF (rqLoadE x) (gtOf most) (upto (hs m) (j + 1))).getD (-1) = v → ∃ s : Nat, CoversL [(0, SV.v (.pointer (some ⟨b, 0, none⟩))), (1, SV.v (.int .u64 (mi m))), (2, SV.v (.bool most)), (8, SV.v (.int .i64 v)), (9, SV.v (.int .i64 (IntKind.wrap .i64 ((j : Int) + 1))))] (e43_1 (some ⟨b, 0, none⟩) (mi m) most ((bestF (rqLoadE x) (gtOf most) (upto (hs m) s)).getD (-1)) (s : Int)) ∧ (s ≤ x.length ∧ Upd no w w') ∧ x.length - s < x.length - j :=
      fun w' v hU' hv => ⟨j + 1, ⟨rfl, rfl, rfl, by rw [hv]; rfl, by rw [w64 (by omega)]; rfl, trivial⟩, ⟨by omega, hU'⟩, by omega⟩
    refine ⟨_, rfl, fun g1 => ?_, fun g1 => next _ _ hU (by rw [hup, if_neg (by simp [g1])])⟩
    rw [if_pos g1] at hup
    rw [hup] at next
    rw [bestF_snoc] at next
    refine ⟨fun g2 => ?_, fun g2 => ?_⟩
    · cases hbf : bestF (rqLoadE x) (gtOf most) (upto (hs m) j) with
      | none => rw [hbf] at g2; simp at g2
      | some a =>
        rw [hbf] at next
        simp only [stepB, Option.getD_some] at next ⊢
        have two : ∀ {w'} (hU' : Upd no w w') {R : Int → Int → World → Prop}, (∀ w'', Upd no w w'' → R (rqLoadE x j) (rqLoadE x a) w'') → Call Tryd.prog 14 [.pointer (some ⟨b, 0, none⟩), .int .i64 j] w' fun e w'' => ∃ n, e = .returned (.int .i64 n) ∧ Call Tryd.prog 14 [.pointer (some ⟨b, 0, none⟩), .int .i64 a] w'' fun e w'' => ∃ n_1, e = .returned (.int .i64 n_1) ∧ R n n_1 w'' := by
          intro w' hU' R hR
          refine ⟨(rrLoad_ok (Frame.tq.upd h hU' (fun _ _ h => h)) hW _).mono ?_⟩
          rintro e w3 ⟨rfl, hU3⟩
          refine ⟨_, rfl, ⟨(rrLoad_ok (Frame.tq.upd h (hU'.and hU3) (fun _ _ h => h)) hW _).mono ?_⟩⟩
          rintro e w4 ⟨rfl, hU4⟩
          exact ⟨_, rfl, hR _ ((hU'.and hU3).and hU4)⟩
        cases most with
        | true =>
          refine ⟨fun _ => two hU fun w' hU' => ⟨fun g3 => ⟨fun g4 => by simp at g4, fun _ => next _ _ hU' ?_⟩, fun g3 => next _ _ hU' ?_⟩, fun g3 => by simp at g3⟩
          · rw [if_neg (by simp [gtOf, gtB] at g3 ⊢; exact g3)]; rfl
          · rw [if_pos (by simpa [gtOf, gtB] using g3)]; rfl
        | false =>
          refine ⟨fun g3 => by simp at g3, fun _ => ⟨fun _ => two hU fun w' hU' => ⟨fun g3 => next _ _ hU' ?_, fun g3 => next _ _ hU' ?_⟩, fun g3 => by simp at g3⟩⟩
          · rw [if_pos (by simpa [gtOf, ltB] using g3)]; rfl
          · rw [if_neg (by simp [gtOf, ltB] at g3 ⊢; exact g3)]; rfl
    · cases hbf : bestF (rqLoadE x) (gtOf most) (upto (hs m) j) with
      | none => rw [hbf] at next; exact next _ _ hU rfl
      | some a =>
        rw [hbf] at g2
        have := hpos a hbf
        have := of_decide_eq_true g2
        simp only [Option.getD_some] at this
        omega
  · have : j = x.length := by simp at g; omega
    subst this
    unfold bestQ
    cases hbf : bestF (rqLoadE x) (gtOf most) (upto (hs m) x.length) with
    | none => exact ⟨fun _ => ⟨rfl, hU⟩, fun g => by simp at g⟩
    | some a =>
      have := hpos a hbf
      exact ⟨fun g => absurd (of_decide_eq_true g) (by simp only [Option.getD_some]; omega), fun _ => ⟨rfl, hU⟩⟩
theorem rrbusy_ok (h : RrO b w F x) (hW : RqW x) (hl64 : x.length ≤ 64) (m : BV) : Calls Tryd.prog 19 #[.pointer (some ⟨b, 0, none⟩), .int .u64 (mi m)] w fun e w' => e = .returned (.tuple #[.int .i64 (bestQ (rqLoadE x) gtB (upto (hs m) x.length)).1, .int .i64 (bestQ (rqLoadE x) gtB (upto (hs m) x.length)).2]) ∧ Upd no w w' := by
  refine u19 ?_
  rw [t19]
  refine ⟨(rrbest_ok h hW hl64 m true).mono ?_⟩
  rintro e w1 ⟨rfl, hU⟩
  exact ⟨_, _, rfl, rfl, hU⟩
theorem rridle_ok (h : RrO b w F x) (hW : RqW x) (hl64 : x.length ≤ 64) (m : BV) : Calls Tryd.prog 21 #[.pointer (some ⟨b, 0, none⟩), .int .u64 (mi m)] w fun e w' => e = .returned (.tuple #[.int .i64 (bestQ (rqLoadE x) ltB (upto (hs m) x.length)).1, .int .i64 (bestQ (rqLoadE x) ltB (upto (hs m) x.length)).2]) ∧ Upd no w w' := by
  refine u21 ?_
  rw [t21]
  refine ⟨(rrbest_ok h hW hl64 m false).mono ?_⟩
  rintro e w1 ⟨rfl, hU⟩
  exact ⟨_, _, rfl, rfl, hU⟩
end
theorem rrNew_ok (n : Int) (w : World) : Calls Tryd.prog 6 #[.int .i64 n] w fun e w' =>
    (¬ okRq n ∧ e = .returned (.tuple #[.pointer none, .int .i64 2]) ∧ w' = w) ∨
    (okRq n ∧ ∃ b F, e = .returned (.tuple #[.pointer (some ⟨b, 0, none⟩), .int .i64 0]) ∧ RrO b w' F (List.replicate n.toNat (32, [])) ∧ Upd no w w' ∧ ∀ i, F i → w.heap.size ≤ i) := by
  refine u6 ?_
  rw [t6]
  unfold okRq
  refine ⟨fun h1 => ⟨fun h2 => .inl ⟨?_, rfl, rfl⟩, fun h2 => ⟨fun w2 hN2 => ?_⟩⟩, fun h1 => .inl ⟨?_, rfl, rfl⟩⟩
  · simp at h2; omega
  · have h1 : ¬ n < 1 := by simpa using h1
    have h2 : ¬ 64 < n := by simpa using h2
    obtain ⟨m, rfl⟩ : ∃ m : Nat, n = m := ⟨n.toNat, by omega⟩
    have hM : Mine w w2 (RrO w.heap.size) [] := Mine.new (Upd.refl _ _) (hN2.upd no) (Tq.nil hN2 rfl) (fun i hi => Nat.le_of_eq hi.symm)
    obtain ⟨b, hb⟩ : ∃ b, w.heap.size = b := ⟨_, rfl⟩
    rw [hb] at hM ⊢
    clear hN2
    refine ⟨WP_loop okProg (M := M6) (σ := Nat) (fun j => e6_1 (m : Int) (some ⟨b, 0, none⟩) (j : Int)) (fun j w' => j ≤ m ∧ Mine w w' (RrO b) (List.replicate j (32, []))) (fun j _ => m - j) 0 ⟨rfl, rfl, rfl, trivial⟩ ⟨by omega, hM⟩ ?_⟩
    clear hM
    rintro j w3 ⟨j1, hM⟩
    rw [t6_1]
    refine ⟨fun g => ?_, fun g => ?_⟩
    · have hj : j < m := by simp at g; omega
      obtain ⟨F2, hA, hT⟩ := hM.turn
      refine ⟨(rpNew_ok 32 w3).mono ?_⟩
      rintro e w4 hh
      obtain ⟨_, bq, G, rfl, hQ, hU, hG⟩ := hh.resolve_left (fun h => absurd (by unfold okP9; decide) h.1)
      obtain ⟨p, c, hB, hput⟩ := Tq.push elRp (k := 0) (fun p n c p' n' c' => rfl) (fun _ _ _ => by simp [rrE]) hA (by simp; omega) (s := (32, [])) hU hQ hG
      refine ⟨_, _, rfl, _, rfl, _, _, _, hB.cell rfl, ⟨fun w5 hN => ?_⟩⟩
      obtain ⟨p', c', w6, hr, hW⟩ := hput w5 hN 58
      refine ⟨p', _, c', w6, hr, _, rfl, hW _ fun w7 hT7 => ?_⟩
      refine ⟨j + 1, ⟨rfl, rfl, by rw [w64 (by omega)]; rfl, trivial⟩, ⟨by omega, ?_⟩, by omega⟩
      have := hT _ _ hT7
      rw [List.replicate_succ']
      exact this
    · have : j = m := by simp at g; omega
      subst this
      obtain ⟨F, hF1, hF2, hF3⟩ := hM
      exact .inr ⟨by omega, b, F, rfl, hF1, hF2, by rw [hb] at hF3; exact hF3⟩
  · simp at h1; omega
end Go.Dav
