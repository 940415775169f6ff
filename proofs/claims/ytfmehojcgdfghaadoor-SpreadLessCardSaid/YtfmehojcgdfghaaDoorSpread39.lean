/- What the functions of things that are spread over cores come to. -/
import Derived.Test.YtfmehojcgdfghaaDoorLast39
import Derived.Test.YtfmehojcgdfghaaDoorLst39
import Derived.Test.YtfmehojcgdfghaaDoorCnt39
import Derived.Test.YtfmehojcgdfghaaDoorSpr
import Derived.Test.YtfmehojcgdfghaaDoorLoc
import Derived.Test.YtfmehojcgdfghaaDoorMap
import Derived.Test.YtfmehojcgdfghaaDoorFam
set_option linter.unusedVariables false
set_option linter.unusedSimpArgs false
namespace Go.Dav
open Go.Proofs
theorem elTi : ElemT Tryd.prog 28 59 3 24 [.int .i64 0, .int .i64 0, .int .u64 0] := ⟨by kernel_rfl, by kernel_rfl, rfl, by omega⟩
theorem elMv : ElemT Tryd.prog 37 57 3 24 [.int .i64 0, .int .i64 0, .int .i64 0] := ⟨by kernel_rfl, by kernel_rfl, rfl, by omega⟩
theorem mbT : MapT Tryd.prog 80 3 4 (.bool false) := ⟨by kernel_rfl, by kernel_rfl, by kernel_rfl, by kernel_rfl⟩
theorem recIIU_one (x : Int × Int × BV) : ∀ u ∈ recIIU x, u.oneCell' = true := by
  intro u hu
  simp only [recIIU, List.mem_cons, List.not_mem_nil, or_false] at hu
  rcases hu with rfl | rfl | rfl <;> rfl
theorem recIII_one (x : Int × Int × Int) : ∀ u ∈ recIII x, u.oneCell' = true := by
  intro u hu
  simp only [recIII, List.mem_cons, List.not_mem_nil, or_false] at hu
  rcases hu with rfl | rfl | rfl <;> rfl
section
variable {w : World}
theorem sright_ok (n : Int) (w : World) : Calls Tryd.prog 26 #[.int .i64 n] w fun e w' => e = .returned (.bool (decide (1 ≤ n ∧ n ≤ 64))) ∧ w' = w := by
  refine u26 ?_
  rw [t26]
  refine ⟨fun g => ⟨?_, rfl⟩, fun g => ⟨?_, rfl⟩⟩
  · have := of_decide_eq_true g
    congr 3
    rw [eq_iff_iff]; omega
  · have := of_decide_eq_false g
    rw [decide_eq_false (by omega)]
def loadsE (n : Int) (l : List TI) : List Int := if 1 ≤ n ∧ n ≤ 64 then ldL n.toNat l else []
theorem setL_map1 {l : List Int} {i : Nat} {v : Int} (hi : i < l.length) : setL (l.map (Value.int .i64)) i [.int .i64 v] = (l.set i v).map (Value.int .i64) := setL_set (f := Value.int .i64) (r := l) hi (v := v)
theorem sloads_ok (n : Int) {p : Option Addr} {l : List TI} {c : Nat} (h : Cells w p (l.flatMap recIIU)) (hl : l.length ≤ 1000) :
    Calls Tryd.prog 9 #[.int .i64 n, .slice p l.length c] w fun e w' => ∃ p' c', e = .returned (.slice p' (loadsE n l).length c') ∧ Loc w w' 3 p' c' (loadsE n l) := by
  refine u9 ?_
  rw [t9]
  refine ⟨(sright_ok n w).mono ?_⟩
  rintro e w1 ⟨rfl, rfl⟩
  unfold loadsE
  by_cases hn : 1 ≤ n ∧ n ≤ 64
  · rw [if_pos hn, decide_eq_true hn]
    obtain ⟨N, rfl⟩ : ∃ N : Nat, n = N := ⟨n.toNat, by omega⟩
    rw [Int.toNat_natCast]
    obtain ⟨w2, hr, hN⟩ := run_mkI elI w1 (n := N) (by omega) (by omega) .i64 .i64
    refine ⟨_, rfl, fun g => by simp at g, fun _ => ⟨_, _, _, w2, hr, ?_⟩⟩
    have hM : Mine w1 w2 (Ls 3) (some ⟨w1.heap.size, 0, none⟩, N, ldL N []) := by
      refine Mine.new (B := Ls 3) (Upd.refl _ _) (hN.upd no) (t := (some ⟨w1.heap.size, 0, none⟩, N, ldL N [])) (G := fpS (some ⟨w1.heap.size, 0, none⟩)) ⟨fun _ => Iff.rfl, ?_⟩ (fun i ⟨a, ha, hi⟩ => by cases ha; rw [hi]; exact Nat.le_refl _)
      simp only [ldL_len]
      rw [ldL_nil]
      exact Sl.new hN (by simp) (by unfold maxLen; omega)
    refine ⟨WP_loop okProg (M := M9) (σ := Nat) (fun i => e9_1 (N : Int) (some ⟨w1.heap.size, 0, none⟩) N N p l.length c (l.length : Int) (i : Int)) (fun i w' => i ≤ l.length ∧ Mine w1 w' (Ls 3) (some ⟨w1.heap.size, 0, none⟩, N, ldL N (l.take i))) (fun i _ => l.length - i) 0 ⟨rfl, rfl, rfl, rfl, rfl, trivial⟩ ⟨by omega, hM⟩ ?_⟩
    clear hM
    rintro i w3 ⟨i1, hM⟩
    rw [t9_1]
    refine ⟨fun g => ?_, fun g => ?_⟩
    · have hi : i < l.length := by simp at g; omega
      obtain ⟨a, ha, hc⟩ := (h.no hM.U).atk recIIU_len (by decide) hi
      have e1 : l.take (i + 1) = l.take i ++ [l[i]] := List.take_succ_eq_append_getElem hi
      refine ⟨⟨by omega, by omega⟩, a, ha, _, hc 0 _ rfl, _, hc 1 _ rfl, _, hc 2 _ rfl, ⟨fun w4 hN4 => ?_⟩⟩
      replace hM : Mine w1 w4 (Star (Ls 3) (Rw w3.heap.size 59 recIIU)) ((some ⟨w1.heap.size, 0, none⟩, N, ldL N (l.take i)), (0, 0, 0)) := hM.add (hN4.upd no) (Rw.new (enc := recIIU) (s := (0, 0, 0)) hN4 rfl) (fun _ h => Nat.le_of_eq h.symm)
      obtain ⟨_, hA, hT⟩ := hM.right
      refine hA.blk.wr0 (by simp [recIIU]) fun w5 hW => ?_
      replace hM : Mine w1 w5 (Star (Ls 3) (Rw w3.heap.size 59 recIIU)) ((some ⟨w1.heap.size, 0, none⟩, N, ldL N (l.take i)), l[i]) := hT _ _ (hA.turned (s' := l[i]) hW.U hW.blk')
      clear hA hT hW hN4
      have hB : Blk w5 w3.heap.size (recIIU l[i]) 59 := atBlk hM.right
      have nx : ∀ w', Mine w1 w' (Ls 3) (some ⟨w1.heap.size, 0, none⟩, N, ldL N (l.take (i + 1))) → ∃ s : Nat, CoversL (e9_1 (N : Int) (some ⟨w1.heap.size, 0, none⟩) N N p l.length c (l.length : Int) (IntKind.wrap .i64 ((i : Int) + 1))) (e9_1 (N : Int) (some ⟨w1.heap.size, 0, none⟩) N N p l.length c (l.length : Int) (s : Int)) ∧ (s ≤ l.length ∧ Mine w1 w' (Ls 3) (some ⟨w1.heap.size, 0, none⟩, N, ldL N (l.take s))) ∧ l.length - s < l.length - i := fun w' hM =>
        ⟨i + 1, ⟨rfl, rfl, rfl, rfl, by rw [w64 (by omega)]; rfl, trivial⟩, ⟨by omega, hM⟩, by omega⟩
      refine ⟨_, hB.cell rfl, fun g1 => ⟨_, hB.cell rfl, fun g2 => ⟨_, hB.cell rfl, ?_⟩, fun g2 => nx _ ?_⟩, fun g1 => nx _ ?_⟩
      · have g1 := of_decide_eq_true g1
        have g2 := of_decide_eq_true g2
        obtain ⟨k, hk⟩ : ∃ k : Nat, l[i].2.1 = (k : Int) := ⟨l[i].2.1.toNat, by omega⟩
        rw [hk] at g1 g2 ⊢
        have hkN : k < N := by omega
        have hlen : k < (ldL N (l.take i)).length := by rw [ldL_len]; exact hkN
        obtain ⟨_, hA, hT⟩ := hM.left
        obtain ⟨a', ha', hcl⟩ := (Ls.cells hA).at1 hlen
        cases ha'
        rw [ldL_at _ hkN] at hcl
        have hcn := cnC_le (l.take i) (k : Int)
        refine ⟨⟨by omega, by omega⟩, _, rfl, _, hcl, ⟨by omega, by omega⟩, _, rfl, ?_⟩
        have hS := hA.2
        simp only [ldL_len] at hS
        simp only [Int.toNat_natCast]
        refine hS.wr (o := k * 1) (by simp; omega) fun w6 hS6 hU6 => nx _ ?_
        rw [Nat.mul_one, setL_map1 hlen] at hS6
        refine (hT w6 (_, _, ldL N (l.take (i + 1))) ⟨fpS (some ⟨w1.heap.size, 0, none⟩), ⟨fun _ => Iff.rfl, ?_⟩, hU6.mono (fun i _ hi => (hA.1 i).2 hi), fun i hi => .inl ((hA.1 i).2 hi)⟩).drop
        simp only [ldL_len]
        rw [e1, ldL_in hkN hk]
        have ew : IntKind.wrap .i64 ((cnC (l.take i) (k : Int) : Int) + 1) = (cnC (l.take i) (k : Int) : Int) + 1 := w64 (by simp at hcn; omega)
        rw [ew] at hS6
        exact hS6
      · have g2 := of_decide_eq_false g2
        rw [e1, ldL_out (by omega)]
        exact hM.drop
      · have g1 := of_decide_eq_false g1
        rw [e1, ldL_out (by omega)]
        exact hM.drop
    · have : i = l.length := by simp at g; omega
      subst this
      rw [List.take_length] at hM
      obtain ⟨F, hA, hU, hF⟩ := hM
      exact ⟨_, N, by rw [ldL_len], hU, hA.2, fun i hi => hF i ((hA.1 i).2 hi)⟩
  · rw [if_neg hn, decide_eq_false hn]
    exact ⟨_, rfl, fun _ => ⟨none, 0, rfl, Loc.nil (Upd.refl _ _) _⟩, fun g => by simp at g⟩
theorem sloadsOf_ok {p : Option Addr} {l : List Int} {c : Nat} (h : Cells w p (l.map (Value.int .i64))) (hl : l.length ≤ 1000) (m : BV) :
    Calls Tryd.prog 28 #[.slice p l.length c, .int .u64 (mi m)] w fun e w' => ∃ p' c', e = .returned (.slice p' (ldOfN l m l.length).length c') ∧ Loc w w' 3 p' c' (ldOfN l m l.length) := by
  refine u28 ?_
  rw [t28]
  refine ⟨WP_loop okProg (M := M28) (σ := Nat × Option Addr × Nat) (fun s => e28_1 (mi m) s.2.1 (ldOfN l m s.1).length s.2.2 p l.length c (l.length : Int) (s.1 : Int)) (fun s w' => s.1 ≤ l.length ∧ Loc w w' 3 s.2.1 s.2.2 (ldOfN l m s.1)) (fun s _ => l.length - s.1) (0, none, 0) ⟨rfl, rfl, rfl, rfl, rfl, trivial⟩ ⟨by omega, Loc.nil (Upd.refl _ _) _⟩ ?_⟩
  rintro ⟨i, p1, c1⟩ w1 ⟨k1, hL⟩
  simp only at k1 hL ⊢
  rw [t28_1]
  refine ⟨fun g => ?_, fun g => ?_⟩
  · have hi : i < l.length := by simp at g; omega
    obtain ⟨a, ha, hc⟩ := (h.no hL.U).at1 hi
    refine ⟨⟨by omega, by omega⟩, a, ha, _, hc, ⟨(mHas_ok m _ w1).mono ?_⟩⟩
    rintro e w2 ⟨rfl, rfl⟩
    have hs1 := ldOfN_succ l m i
    have e0 : l.getD i 0 = l[i] := by simp [hi]
    rw [e0] at hs1
    have hle := ldOfN_len l m i
    refine ⟨_, rfl, fun g1 => ⟨fun w3 hN => ?_⟩, fun g1 => ?_⟩
    · rw [if_pos g1] at hs1
      obtain ⟨p', c', w4, hr, hL'⟩ := hL.push elI (by omega) hN 23
      rw [← hs1] at hr hL'
      exact ⟨p', _, c', w4, hr, (i + 1, p', c'), ⟨rfl, rfl, rfl, rfl, by rw [w64 (by omega)]; rfl, trivial⟩, ⟨by simp only; omega, hL'⟩, by simp only; omega⟩
    · rw [if_neg (by simp [g1])] at hs1
      exact ⟨(i + 1, p1, c1), ⟨rfl, by rw [hs1]; rfl, rfl, rfl, by rw [w64 (by omega)]; rfl, trivial⟩, ⟨by simp only; omega, by rw [hs1]; exact hL⟩, by simp only; omega⟩
  · have : i = l.length := by simp at g; omega
    subst this
    exact ⟨p1, c1, rfl, hL⟩
theorem run_max2 (x y : Int) (w : World) : (Builtin.max_ #[3, 3] 3 #[.int .i64 x, .int .i64 y]).run Tryd.prog w = .ok (.int .i64 (if y > x then y else x)) w := by
  simp [Builtin.max_, Builtin.max2]
theorem run_min2 (x y : Int) (w : World) : (Builtin.min_ #[3, 3] 3 #[.int .i64 x, .int .i64 y]).run Tryd.prog w = .ok (.int .i64 (if y < x then y else x)) w := by
  simp [Builtin.min_, Builtin.min2]
theorem smax_ok {p : Option Addr} {v : Int} {l : List Int} {c : Nat} (h : Cells w p ((v :: l).map (Value.int .i64))) (hl : l.length ≤ 1000) :
    Calls Tryd.prog 29 #[.slice p (v :: l).length c] w fun e w' => e = .returned (.int .i64 (mxL v l)) ∧ w' = w := by
  have hlc : (v :: l).length = l.length + 1 := rfl
  refine u29 ?_
  rw [t29]
  refine ⟨fun g => by simp at g; omega, fun _ => CutD.mk ?_⟩
  rw [t29_0]
  obtain ⟨a, ha, hc⟩ := h.at1 (i := 0) (by simp)
  refine ⟨⟨by omega, by simp⟩, a, ha, _, hc, ⟨WP_loop okProg (M := M29) (σ := Nat) (fun j => e29_2 p (v :: l).length c (mxL v (l.take j)) ((j : Int) + 1)) (fun j w' => j ≤ l.length ∧ w' = w) (fun j _ => l.length - j) 0 ⟨rfl, rfl, rfl, trivial⟩ ⟨by omega, rfl⟩ ?_⟩⟩
  rintro j w1 ⟨j1, rfl⟩
  rw [t29_2]
  refine ⟨fun g => ?_, fun g => ?_⟩
  · have hj : j < l.length := by simp at g; omega
    obtain ⟨a, ha, hc⟩ := h.at1 (i := j + 1) (by simpa using hj)
    simp only [List.getElem_cons_succ] at hc
    have e1 : ((j : Int) + 1).toNat = j + 1 := by omega
    rw [e1]
    refine ⟨⟨by omega, by omega⟩, a, ha, _, hc, _, w1, run_max2 _ _ _, j + 1, ⟨rfl, ?_, ?_, trivial⟩, ⟨by omega, rfl⟩, by omega⟩
    · rw [List.take_succ_eq_append_getElem hj, mxL_snoc]; rfl
    · rw [w64 (by omega)]; rfl
  · have : j = l.length := by simp at g; omega
    subst this
    rw [List.take_length]
    exact ⟨rfl, rfl⟩
theorem smin_ok {p : Option Addr} {v : Int} {l : List Int} {c : Nat} (h : Cells w p ((v :: l).map (Value.int .i64))) (hl : l.length ≤ 1000) :
    Calls Tryd.prog 30 #[.slice p (v :: l).length c] w fun e w' => e = .returned (.int .i64 (mnL v l)) ∧ w' = w := by
  have hlc : (v :: l).length = l.length + 1 := rfl
  refine u30 ?_
  rw [t30]
  refine ⟨fun g => by simp at g; omega, fun _ => CutD.mk ?_⟩
  rw [t30_0]
  obtain ⟨a, ha, hc⟩ := h.at1 (i := 0) (by simp)
  refine ⟨⟨by omega, by simp⟩, a, ha, _, hc, ⟨WP_loop okProg (M := M30) (σ := Nat) (fun j => e30_2 p (v :: l).length c (mnL v (l.take j)) ((j : Int) + 1)) (fun j w' => j ≤ l.length ∧ w' = w) (fun j _ => l.length - j) 0 ⟨rfl, rfl, rfl, trivial⟩ ⟨by omega, rfl⟩ ?_⟩⟩
  rintro j w1 ⟨j1, rfl⟩
  rw [t30_2]
  refine ⟨fun g => ?_, fun g => ?_⟩
  · have hj : j < l.length := by simp at g; omega
    obtain ⟨a, ha, hc⟩ := h.at1 (i := j + 1) (by simpa using hj)
    simp only [List.getElem_cons_succ] at hc
    have e1 : ((j : Int) + 1).toNat = j + 1 := by omega
    rw [e1]
    refine ⟨⟨by omega, by omega⟩, a, ha, _, hc, _, w1, run_min2 _ _ _, j + 1, ⟨rfl, ?_, ?_, trivial⟩, ⟨by omega, rfl⟩, by omega⟩
    · rw [List.take_succ_eq_append_getElem hj, mnL_snoc]; rfl
    · rw [w64 (by omega)]; rfl
  · have : j = l.length := by simp at g; omega
    subst this
    rw [List.take_length]
    exact ⟨rfl, rfl⟩
theorem sgap_ok {p : Option Addr} {l : List Int} {c : Nat} (h : Cells w p (l.map (Value.int .i64))) (hl : l.length ≤ 1000) (m : BV) :
    Calls Tryd.prog 12 #[.slice p l.length c, .int .u64 (mi m)] w fun e w' => e = .returned (.int .i64 (gapW (ldOfN l m l.length))) ∧ Upd no w w' := by
  refine u12 ?_
  rw [t12]
  refine ⟨(sloadsOf_ok h hl m).mono ?_⟩
  rintro e w1 ⟨p', c', rfl, hL⟩
  have hle := ldOfN_len l m l.length
  have hC := hL.S.cells
  have hU := hL.U
  clear hL
  revert hle hC
  generalize ldOfN l m l.length = k
  intro hle hC
  cases k with
  | nil => exact ⟨_, _, _, rfl, fun _ => ⟨rfl, hU⟩, fun g => by simp at g⟩
  | cons v k =>
    simp only [List.length_cons] at hle
    refine ⟨_, _, _, rfl, fun g => by simp at g; omega, fun _ => ⟨(smax_ok hC (by omega)).mono ?_⟩⟩
    rintro e w2 ⟨rfl, rfl⟩
    refine ⟨_, rfl, ⟨(smin_ok hC (by omega)).mono ?_⟩⟩
    rintro e w2 ⟨rfl, rfl⟩
    exact ⟨_, rfl, rfl, hU⟩
theorem sweight_ok {p : Option Addr} {l : List Int} {c : Nat} (h : Cells w p (l.map (Value.int .i64))) (hl : l.length ≤ 1000) :
    Calls Tryd.prog 14 #[.slice p l.length c] w fun e w' => e = .returned (.int .i64 (wtN l l.length)) ∧ w' = w := by
  refine u14 ?_
  rw [t14]
  refine ⟨WP_loop okProg (M := M14) (σ := Nat) (fun j => e14_1 (wtN l j) p l.length c (l.length : Int) (j : Int)) (fun j w' => j ≤ l.length ∧ w' = w) (fun j _ => l.length - j) 0 ⟨rfl, rfl, rfl, rfl, trivial⟩ ⟨by omega, rfl⟩ ?_⟩
  rintro j w1 ⟨j1, rfl⟩
  rw [t14_1]
  refine ⟨fun g => ?_, fun g => ?_⟩
  · have hj : j < l.length := by simp at g; omega
    obtain ⟨a, ha, hc⟩ := h.at1 hj
    have e0 : l.getD j 0 = l[j] := by simp [hj]
    have e1 : wtN l (j + 1) = if 0 ≤ l[j] ∧ l[j] ≤ 1048576 then IntKind.wrap .i64 (wtN l j + IntKind.wrap .i64 (l[j] * l[j])) else wtN l j := by rw [wtN, e0]
    refine ⟨⟨by omega, by omega⟩, a, ha, _, hc, fun g1 => ⟨fun g2 => ?_, fun g2 => ?_⟩, fun g1 => ?_⟩
    · have g1 := of_decide_eq_true g1
      have g2 := of_decide_eq_true g2
      rw [if_pos ⟨g1, g2⟩] at e1
      exact ⟨j + 1, ⟨by rw [e1]; rfl, rfl, rfl, by rw [w64 (x := (j : Int) + 1) (by omega)]; rfl, trivial⟩, ⟨by omega, rfl⟩, by omega⟩
    · have g2 := of_decide_eq_false g2
      rw [if_neg (fun h => g2 h.2)] at e1
      exact ⟨j + 1, ⟨by rw [e1]; rfl, rfl, rfl, by rw [w64 (x := (j : Int) + 1) (by omega)]; rfl, trivial⟩, ⟨by omega, rfl⟩, by omega⟩
    · have g1 := of_decide_eq_false g1
      rw [if_neg (fun h => g1 h.1)] at e1
      exact ⟨j + 1, ⟨by rw [e1]; rfl, rfl, rfl, by rw [w64 (x := (j : Int) + 1) (by omega)]; rfl, trivial⟩, ⟨by omega, rfl⟩, by omega⟩
  · have : j = l.length := by simp at g; omega
    subst this
    exact ⟨rfl, rfl⟩
/-- A copy, of the call's own. -/
theorem sclone_ok {p : Option Addr} {l : List TI} {c : Nat} (h : Cells w p (l.flatMap recIIU)) (hl : l.length ≤ 1000) :
    Calls Tryd.prog 33 #[.slice p l.length c] w fun e w' => ∃ p' c', e = .returned (.slice p' l.length c') ∧ LocR recIIU 3 w w' 59 p' c' l := by
  refine u33 ?_
  rw [t33]
  refine ⟨fun hp => ?_, fun hp => ⟨fun w1 hN => ?_⟩⟩
  · have : l = [] := by
      cases l with
      | nil => rfl
      | cons x l =>
        obtain ⟨a, ha, _⟩ := h.atk recIIU_len (by decide) (i := 0) (by simp)
        rw [ha] at hp; simp at hp
    subst this
    exact ⟨none, 0, rfl, LocR.nil (Upd.refl _ _) _⟩
  · have hS : Sl w1 59 3 (some ⟨w.heap.size, 0, none⟩) 0 0 [] := Sl.new hN (by simp) (by unfold maxLen; omega)
    have hL0 : LocR recIIU 3 w w1 59 (some ⟨w.heap.size, 0, none⟩) 0 [] := ⟨hN.upd no, hS, fun i ⟨a, ha, hi⟩ => by cases ha; rw [hi]; exact Nat.le_refl _⟩
    obtain ⟨p', c', w2, hr, hL⟩ := hL0.moreQ elTi recIIU_len recIIU_one (h.no hL0.U) (d := c) (by simp; omega) (by simp; omega) 28
    rw [List.nil_append] at hr hL
    exact ⟨p', _, c', w2, hr, p', c', rfl, hL⟩

def planB (m : BV) (l : List TI) : Bool := decide ((l.map (·.1)).Nodup) && l.all fun x => hs m x.2.1
def mayE (n : Int) (m : BV) (l : List TI) : Int := if ¬ (1 ≤ n ∧ n ≤ 64) ∨ m = 0 ∨ (m &&& ~~~ upM n) ≠ 0 then 2 else if 64 < l.length then 15 else if planB m l then 0 else 2
theorem mayE_ok {n : Int} {m : BV} {l : List TI} (h : mayE n m l = 0) : (1 ≤ n ∧ n ≤ 64) ∧ m ≠ 0 ∧ (m &&& ~~~ upM n) = 0 ∧ PlanI m l := by
  unfold mayE at h
  split at h
  · cases h
  · rename_i h1
    split at h
    · cases h
    · rename_i h2
      split at h
      · rename_i h3
        unfold planB at h3
        simp only [Bool.and_eq_true, decide_eq_true_eq, List.all_eq_true] at h3
        refine ⟨Decidable.byContradiction fun h => h1 (.inl h), fun h => h1 (.inr (.inl h)), Decidable.byContradiction fun h => h1 (.inr (.inr h)), h3.1, h3.2, by omega⟩
      · cases h
theorem planB_no {m : BV} {l : List TI} {i : Nat} (hi : i < l.length) (h : hs m l[i].2.1 = false ∨ l[i].1 ∈ (l.take i).map (·.1)) : planB m l = false := by
  unfold planB
  rcases h with h | h
  · have : (l.all fun x => hs m x.2.1) = false := by
      rw [List.all_eq_false]
      exact ⟨l[i], List.getElem_mem hi, by simp [h]⟩
    rw [this, Bool.and_false]
  · have : ¬ (l.map (·.1)).Nodup := by
      intro hn
      obtain ⟨x, hx, hxe⟩ := List.mem_map.1 h
      obtain ⟨j, hj, rfl⟩ := List.getElem_of_mem hx
      have hj2 : j < i := by simp at hj; omega
      have := List.pairwise_iff_getElem.1 hn j i (by simp; omega) (by simpa using hi) hj2
      simp only [List.getElem_map] at this
      rw [List.getElem_take] at hxe
      exact this hxe
    rw [decide_eq_false this, Bool.false_and]
theorem smay_ok (n : Int) (m : BV) {p : Option Addr} {l : List TI} {c : Nat} (h : Cells w p (l.flatMap recIIU)) (hl : l.length ≤ 1000) :
    Calls Tryd.prog 32 #[.int .i64 n, .int .u64 (mi m), .slice p l.length c] w fun e w' => e = .returned (.int .i64 (mayE n m l)) ∧ Upd no w w' := by
  refine u32 ?_
  rw [t32]
  refine ⟨(sright_ok n w).mono ?_⟩
  rintro e w1 ⟨rfl, rfl⟩
  unfold mayE
  by_cases hn : 1 ≤ n ∧ n ≤ 64
  · rw [decide_eq_true hn]
    refine ⟨_, rfl, fun _ => ⟨fun g => ⟨(mUpto_ok n w1).mono ?_⟩, fun g => ?_⟩, fun g => by simp at g⟩
    · rintro e w2 ⟨rfl, rfl⟩
      refine ⟨_, rfl, ⟨(mWithin_ok m (upM n) w2).mono ?_⟩⟩
      rintro e w3 ⟨rfl, rfl⟩
      have hm : m ≠ 0 := by rw [mi_beq0] at g; simpa using g
      refine ⟨_, rfl, fun g1 => ?_, fun g1 => ⟨fun g2 => ?_, fun g2 => ?_⟩⟩
      · have g1 : (m &&& ~~~ upM n) ≠ 0 := by simpa using g1
        rw [if_pos (.inr (.inr g1))]
        exact ⟨rfl, Upd.refl _ _⟩
      · have g1 : (m &&& ~~~ upM n) = 0 := by simpa using g1
        rw [if_neg (fun h => by rcases h with h | h | h; exact h hn; exact hm h; exact h g1), if_pos (by simp at g2; omega)]
        exact ⟨rfl, Upd.refl _ _⟩
      · have g1 : (m &&& ~~~ upM n) = 0 := by simpa using g1
        rw [if_neg (fun h => by rcases h with h | h | h; exact h hn; exact hm h; exact h g1), if_neg (by simp at g2; omega)]
        refine ⟨fun w4 hN => ?_⟩
        have hM : Mine w3 w4 (MapO w3.heap.size (Value.bool)) (fun _ => none, 0) := Mine.new (Upd.refl _ _) (hN.upd no) (MapO.new hN) (fun i hi => Nat.le_of_eq hi.symm)
        generalize w3.heap.size = r at hM ⊢
        refine ⟨WP_loop okProg (M := M32) (σ := Nat) (fun i => e32_1 (mi m) (some r) p l.length c (l.length : Int) (i : Int)) (fun i w' => i ≤ l.length ∧ ((l.take i).map (·.1)).Nodup ∧ (∀ x ∈ l.take i, hs m x.2.1 = true) ∧ ∃ g, Mine w3 w' (MapO r (Value.bool)) g ∧ ∀ k, g.1 k = if k ∈ (l.take i).map (·.1) then some true else none) (fun i _ => l.length - i) 0 ⟨rfl, rfl, rfl, rfl, rfl, trivial⟩ ⟨by omega, by simp, by simp, _, hM, by simp⟩ ?_⟩
        clear hM
        rintro i w5 ⟨i1, i2, i3, g, hM, hg⟩
        rw [t32_1]
        refine ⟨fun q => ?_, fun q => ?_⟩
        · have hi : i < l.length := by simp at q; omega
          have e1 : l.take (i + 1) = l.take i ++ [l[i]] := List.take_succ_eq_append_getElem hi
          obtain ⟨a, ha, hc⟩ := (h.no hM.U).atk recIIU_len (by decide) hi
          refine ⟨⟨by omega, by omega⟩, a, ha, _, hc 0 _ rfl, _, hc 1 _ rfl, _, hc 2 _ rfl, ⟨fun w6 hN6 => ?_⟩⟩
          replace hM : Mine w3 w6 (Star (MapO r (Value.bool)) (Rw w5.heap.size 59 recIIU)) (g, (0, 0, 0)) := hM.add (hN6.upd no) (Rw.new (enc := recIIU) (s := (0, 0, 0)) hN6 rfl) (fun _ h => Nat.le_of_eq h.symm)
          obtain ⟨_, hA, hT⟩ := hM.right
          refine hA.blk.wr0 (by simp [recIIU]) fun w7 hW => ?_
          replace hM : Mine w3 w7 (Star (MapO r (Value.bool)) (Rw w5.heap.size 59 recIIU)) (g, l[i]) := hT _ _ (hA.turned (s' := l[i]) hW.U hW.blk')
          clear hA hT hW hN6
          have hB : Blk w7 w5.heap.size (recIIU l[i]) 59 := atBlk hM.right
          obtain ⟨_, hA, hT⟩ := hM.left
          have hlk := run_lookup mbT hA l[i].1 false
          simp only [Bool.false_eq_true, if_false] at hlk
          by_cases hin : l[i].1 ∈ (l.take i).map (·.1)
          · rw [planB_no hi (.inr hin)]
            rw [hg, if_pos hin] at hlk
            exact ⟨_, hB.cell rfl, _, hlk, fun g => by simp at g, fun _ => ⟨rfl, hM.U⟩⟩
          · rw [hg, if_neg hin] at hlk
            refine ⟨_, hB.cell rfl, _, hlk, fun _ => ⟨_, hB.cell rfl, ⟨(mHas_ok m _ w7).mono ?_⟩⟩, fun g => by simp at g⟩
            rintro e w8 ⟨rfl, rfl⟩
            refine ⟨_, rfl, fun g1 => ?_, fun g1 => ?_⟩
            · have g1 : hs m l[i].2.1 = false := by simpa using g1
              rw [planB_no hi (.inl g1)]
              exact ⟨rfl, hM.U⟩
            · have g1 : hs m l[i].2.1 = true := by simpa using g1
              obtain ⟨w9, hr, ht⟩ := run_put mbT hA l[i].1 true
              refine ⟨_, hB.cell rfl, w9, hr, i + 1, ⟨rfl, rfl, rfl, rfl, by rw [w64 (by omega)]; rfl, trivial⟩, ⟨by omega, ?_, ?_, _, (hT _ _ ht).drop, fun k => ?_⟩, by omega⟩
              · rw [e1, List.map_append, List.nodup_append]
                refine ⟨i2, by simp, fun a ha b hb e => ?_⟩
                simp at hb
                subst hb
                subst e
                exact hin ha
              · rw [e1]
                intro x hx
                rcases List.mem_append.1 hx with hx | hx
                · exact i3 x hx
                · simp at hx; rw [hx]; exact g1
              · simp only [mput, hg]
                rw [e1, List.map_append]
                by_cases hk : k = l[i].1
                · rw [if_pos hk, if_pos (by simp [hk])]
                · rw [if_neg hk]
                  by_cases hk2 : k ∈ (l.take i).map (·.1)
                  · rw [if_pos hk2, if_pos (List.mem_append_left _ hk2)]
                  · rw [if_neg hk2, if_neg]
                    intro h
                    rcases List.mem_append.1 h with h | h
                    · exact hk2 h
                    · simp at h; exact hk h
        · have : i = l.length := by simp at q; omega
          subst this
          rw [List.take_length] at i2 i3
          have : planB m l = true := by
            unfold planB
            simp only [Bool.and_eq_true, decide_eq_true_eq, List.all_eq_true]
            exact ⟨i2, i3⟩
          rw [this, if_pos rfl]
          exact ⟨rfl, hM.U⟩
    · have hm : m = 0 := by rw [mi_beq0] at g; simpa using g
      rw [if_pos (.inr (.inl hm))]
      exact ⟨rfl, Upd.refl _ _⟩
  · rw [decide_eq_false hn, if_pos (.inl hn)]
    exact ⟨_, rfl, fun g => by simp at g, fun _ => ⟨rfl, Upd.refl _ _⟩⟩
theorem smore_ok (u v : Int) (w : World) : Calls Tryd.prog 35 #[.int .i64 u, .int .i64 v] w fun e w' => e = .returned (.bool (gtB u v)) ∧ w' = w := by
  refine u35 ?_
  rw [t35]
  exact ⟨rfl, rfl⟩
theorem sless_ok (u v : Int) (w : World) : Calls Tryd.prog 36 #[.int .i64 u, .int .i64 v] w fun e w' => e = .returned (.bool (ltB u v)) ∧ w' = w := by
  refine u36 ?_
  rw [t36]
  exact ⟨rfl, rfl⟩
theorem sbest1_ok {p : Option Addr} {ld : List Int} {c : Nat} (h : Cells w p (ld.map (Value.int .i64))) (hTab : Tab w) (m : BV) (hm : ∀ c ∈ cs m, c < ld.length) :
    Calls Tryd.prog 34 #[.slice p ld.length c, .int .u64 (mi m), .func (.func 35) #[] #[]] w fun e w' => e = .returned (.int .i64 ((bestF (fun c => ld.getD c.toNat 0) gtB (cs m)).getD (-1))) ∧ Upd no w w' := by
  refine u34 ?_
  rw [t34]
  refine ⟨(mList_ok m hTab).mono ?_⟩
  have hpos : ∀ c ∈ cs m, 0 ≤ c := fun c hc => (mem_upto.1 hc).1
  have hlen := cs_len m
  revert hm hpos hlen
  generalize cs m = l
  intro hm hpos hlen
  rintro e w1 ⟨p2, c2, rfl, hL⟩
  have hC := hL.S.cells
  have hU := hL.U
  have h1 := h.no hU
  clear hL
  refine ⟨_, _, _, rfl, ⟨WP_loop okProg (M := M34) (σ := Nat) (fun j => e34_1 p ld.length c ((bestF (fun c => ld.getD c.toNat 0) gtB (l.take j)).getD (-1)) p2 l.length c2 (l.length : Int) (j : Int)) (fun j w' => j ≤ l.length ∧ Upd no w1 w') (fun j _ => l.length - j) 0 ⟨rfl, rfl, rfl, rfl, rfl, rfl, trivial⟩ ⟨by omega, Upd.refl _ _⟩ ?_⟩⟩
  rintro j w2 ⟨j1, hU2⟩
  rw [t34_1]
  refine ⟨fun g => ?_, fun g => ?_⟩
  · have hj : j < l.length := by simp at g; omega
    obtain ⟨a, ha, hc⟩ := (hC.no hU2).at1 hj
    refine ⟨⟨by omega, by omega⟩, a, ha, _, hc, ?_⟩
    intro w3 q1 q2 q3 q4
    have hU3 := hU2.and (Upd.same no q1 q2 q3 q4)
    have h3 := h1.no hU3
    have hs1 := bestF_snoc (fun c => ld.getD c.toNat 0) gtB (l.take j) l[j]
    rw [← List.take_succ_eq_append_getElem hj] at hs1
    have nx : ∀ w' v, Upd no w1 w' → (bestF (fun c => ld.getD c.toNat 0) gtB (l.take (j + 1))).getD (-1) = v → ∃ s : Nat, CoversL [(0, SV.v (.slice p ld.length c)), (2, SV.v (.func (.func 35) #[] #[])), (7, SV.v (.int .i64 v)), (11, SV.v (.slice p2 l.length c2)), (12, SV.v (.int .i64 (l.length : Int))), (13, SV.v (.int .i64 (IntKind.wrap .i64 ((j : Int) + 1))))] (e34_1 p ld.length c ((bestF (fun c => ld.getD c.toNat 0) gtB (l.take s)).getD (-1)) p2 l.length c2 (l.length : Int) (s : Int)) ∧ (s ≤ l.length ∧ Upd no w1 w') ∧ l.length - s < l.length - j :=
      fun w' v hU' hv => ⟨j + 1, ⟨rfl, rfl, by rw [hv]; rfl, rfl, rfl, by rw [w64 (by omega)]; rfl, trivial⟩, ⟨by omega, hU'⟩, by omega⟩
    rcases bestF_in (fun c => ld.getD c.toNat 0) gtB (l.take j) with ⟨k1, _⟩ | ⟨b, kb, k1⟩
    · rw [k1] at hs1 ⊢
      exact ⟨fun g1 => by simp at g1, fun _ => nx _ _ hU3 (by rw [hs1]; rfl)⟩
    · rw [k1] at hs1 ⊢
      simp only [Option.getD_some]
      have hbl := List.mem_of_mem_take kb
      have hb0 := hpos b hbl
      have hb1 := hm b hbl
      have hj0 := hpos _ (List.getElem_mem hj)
      have hj1 := hm _ (List.getElem_mem hj)
      obtain ⟨kb', hkb⟩ : ∃ k : Nat, b = (k : Int) := ⟨b.toNat, by omega⟩
      obtain ⟨kj, hkj⟩ : ∃ k : Nat, l[j] = (k : Int) := ⟨l[j].toNat, by omega⟩
      obtain ⟨a1, ha1, hc1⟩ := h3.at1 (i := kj) (by omega)
      obtain ⟨a2, ha2, hc2⟩ := h3.at1 (i := kb') (by omega)
      refine ⟨fun _ => ?_, fun g1 => absurd (of_decide_eq_true g1) (by omega)⟩
      have ej : l[j].toNat = kj := by omega
      have eb : b.toNat = kb' := by omega
      refine ⟨⟨by omega, by omega⟩, a1, ha1, _, by rw [ej]; exact hc1, ⟨by omega, by omega⟩, a2, ha2, _, by rw [eb]; exact hc2, ⟨(smore_ok _ _ w3).mono ?_⟩⟩
      rintro e w4 ⟨rfl, rfl⟩
      have e1 : ld.getD l[j].toNat 0 = ld[kj]'(by omega) := by rw [ej]; simp [show kj < ld.length by omega]
      have e2 : ld.getD b.toNat 0 = ld[kb']'(by omega) := by rw [eb]; simp [show kb' < ld.length by omega]
      unfold stepB at hs1
      simp only [e1, e2] at hs1
      exact ⟨_, rfl, fun g1 => nx _ _ hU3 (by rw [hs1, if_pos g1]; rfl), fun g1 => nx _ _ hU3 (by rw [hs1, if_neg (by simp [g1])]; rfl)⟩
  · have : j = l.length := by simp at g; omega
    subst this
    rw [List.take_length]
    exact ⟨rfl, hU.and hU2⟩
theorem sbest2_ok {p : Option Addr} {ld : List Int} {c : Nat} (h : Cells w p (ld.map (Value.int .i64))) (hTab : Tab w) (m : BV) (hm : ∀ c ∈ cs m, c < ld.length) :
    Calls Tryd.prog 34 #[.slice p ld.length c, .int .u64 (mi m), .func (.func 36) #[] #[]] w fun e w' => e = .returned (.int .i64 ((bestF (fun c => ld.getD c.toNat 0) ltB (cs m)).getD (-1))) ∧ Upd no w w' := by
  refine Fn2.u34 ?_
  rw [Fn2.t34]
  refine ⟨(mList_ok m hTab).mono ?_⟩
  have hpos : ∀ c ∈ cs m, 0 ≤ c := fun c hc => (mem_upto.1 hc).1
  have hlen := cs_len m
  revert hm hpos hlen
  generalize cs m = l
  intro hm hpos hlen
  rintro e w1 ⟨p2, c2, rfl, hL⟩
  have hC := hL.S.cells
  have hU := hL.U
  have h1 := h.no hU
  clear hL
  refine ⟨_, _, _, rfl, ⟨WP_loop okProg (M := Fn2.M34) (σ := Nat) (fun j => Fn2.e34_1 p ld.length c ((bestF (fun c => ld.getD c.toNat 0) ltB (l.take j)).getD (-1)) p2 l.length c2 (l.length : Int) (j : Int)) (fun j w' => j ≤ l.length ∧ Upd no w1 w') (fun j _ => l.length - j) 0 ⟨rfl, rfl, rfl, rfl, rfl, rfl, trivial⟩ ⟨by omega, Upd.refl _ _⟩ ?_⟩⟩
  rintro j w2 ⟨j1, hU2⟩
  rw [Fn2.t34_1]
  refine ⟨fun g => ?_, fun g => ?_⟩
  · have hj : j < l.length := by simp at g; omega
    obtain ⟨a, ha, hc⟩ := (hC.no hU2).at1 hj
    refine ⟨⟨by omega, by omega⟩, a, ha, _, hc, ?_⟩
    intro w3 q1 q2 q3 q4
    have hU3 := hU2.and (Upd.same no q1 q2 q3 q4)
    have h3 := h1.no hU3
    have hs1 := bestF_snoc (fun c => ld.getD c.toNat 0) ltB (l.take j) l[j]
    rw [← List.take_succ_eq_append_getElem hj] at hs1
    have nx : ∀ w' v, Upd no w1 w' → (bestF (fun c => ld.getD c.toNat 0) ltB (l.take (j + 1))).getD (-1) = v → ∃ s : Nat, CoversL [(0, SV.v (.slice p ld.length c)), (2, SV.v (.func (.func 36) #[] #[])), (7, SV.v (.int .i64 v)), (11, SV.v (.slice p2 l.length c2)), (12, SV.v (.int .i64 (l.length : Int))), (13, SV.v (.int .i64 (IntKind.wrap .i64 ((j : Int) + 1))))] (Fn2.e34_1 p ld.length c ((bestF (fun c => ld.getD c.toNat 0) ltB (l.take s)).getD (-1)) p2 l.length c2 (l.length : Int) (s : Int)) ∧ (s ≤ l.length ∧ Upd no w1 w') ∧ l.length - s < l.length - j :=
      fun w' v hU' hv => ⟨j + 1, ⟨rfl, rfl, by rw [hv]; rfl, rfl, rfl, by rw [w64 (by omega)]; rfl, trivial⟩, ⟨by omega, hU'⟩, by omega⟩
    rcases bestF_in (fun c => ld.getD c.toNat 0) ltB (l.take j) with ⟨k1, _⟩ | ⟨b, kb, k1⟩
    · rw [k1] at hs1 ⊢
      exact ⟨fun g1 => by simp at g1, fun _ => nx _ _ hU3 (by rw [hs1]; rfl)⟩
    · rw [k1] at hs1 ⊢
      simp only [Option.getD_some]
      have hbl := List.mem_of_mem_take kb
      have hb0 := hpos b hbl
      have hb1 := hm b hbl
      have hj0 := hpos _ (List.getElem_mem hj)
      have hj1 := hm _ (List.getElem_mem hj)
      obtain ⟨kb', hkb⟩ : ∃ k : Nat, b = (k : Int) := ⟨b.toNat, by omega⟩
      obtain ⟨kj, hkj⟩ : ∃ k : Nat, l[j] = (k : Int) := ⟨l[j].toNat, by omega⟩
      obtain ⟨a1, ha1, hc1⟩ := h3.at1 (i := kj) (by omega)
      obtain ⟨a2, ha2, hc2⟩ := h3.at1 (i := kb') (by omega)
      refine ⟨fun _ => ?_, fun g1 => absurd (of_decide_eq_true g1) (by omega)⟩
      have ej : l[j].toNat = kj := by omega
      have eb : b.toNat = kb' := by omega
      refine ⟨⟨by omega, by omega⟩, a1, ha1, _, by rw [ej]; exact hc1, ⟨by omega, by omega⟩, a2, ha2, _, by rw [eb]; exact hc2, ⟨(sless_ok _ _ w3).mono ?_⟩⟩
      rintro e w4 ⟨rfl, rfl⟩
      have e1 : ld.getD l[j].toNat 0 = ld[kj]'(by omega) := by rw [ej]; simp [show kj < ld.length by omega]
      have e2 : ld.getD b.toNat 0 = ld[kb']'(by omega) := by rw [eb]; simp [show kb' < ld.length by omega]
      unfold stepB at hs1
      simp only [e1, e2] at hs1
      exact ⟨_, rfl, fun g1 => nx _ _ hU3 (by rw [hs1, if_pos g1]; rfl), fun g1 => nx _ _ hU3 (by rw [hs1, if_neg (by simp [g1])]; rfl)⟩
  · have : j = l.length := by simp at g; omega
    subst this
    rw [List.take_length]
    exact ⟨rfl, hU.and hU2⟩
/-! ### The last one that may go -/
def enN (l : List TI) (n : Nat) : List IX := (List.range n).map fun i => (i, l.getD i (0, 0, 0))
theorem enN_last (l : List TI) (f t : Int) : ∀ n, lastP (enN l n) f t = lastN l f t n
  | 0 => rfl
  | n + 1 => by
    have ih := enN_last l f t n
    have e : (enN l (n + 1)).reverse = (n, l.getD n (0, 0, 0)) :: (enN l n).reverse := by
      unfold enN
      rw [List.range_succ, List.map_append, List.reverse_append]
      rfl
    have hs : satL f t (n, l.getD n (0, 0, 0)) = satI f t (l.getD n (0, 0, 0)) := rfl
    unfold lastP at ih ⊢
    rw [e, List.find?_cons, hs]
    show _ = if satI f t (l.getD n (0, 0, 0)) then (n : Int) else lastN l f t n
    cases satI f t (l.getD n (0, 0, 0)) with
    | true => rfl
    | false => simpa using ih
theorem slast_ok {F : Fp} {p : Option Addr} {l : List TI} {c : Nat} (h : LsR recIIU 3 59 w F (p, c, l)) (hl : l.length ≤ 1000) (hz : 0 < w.heap.size) (f t : Int) :
    Calls Tryd.prog 37 #[.slice p l.length c, .int .i64 f, .int .i64 t] w fun e w' => e = .returned (.int .i64 (lastN l f t l.length)) ∧ Upd no w w' := by
  have hlen : (enN l l.length).length = l.length := by simp [enN]
  have hat : ∀ (i : Nat) (v : IX), (enN l l.length)[i]? = some v → ∃ hi : i < l.length, v = (i, l[i]) := by
    intro i v hv
    obtain ⟨hi, e⟩ := List.getElem?_eq_some_iff.1 hv
    have hi' : i < l.length := by rw [hlen] at hi; exact hi
    refine ⟨hi', ?_⟩
    rw [← e]
    simp [enN, hi']
  have hcell : ∃ bq o, bq < w.heap.size ∧ ∀ (i : Nat) (v : IX), (enN l l.length)[i]? = some v → p = some ⟨bq, o, none⟩ ∧ ∀ j u, (it3 v.2)[j]? = some u → w.cell? ⟨bq, o + i * 3 + j, none⟩ = some u := by
    cases p with
    | none =>
      refine ⟨0, 0, hz, fun i v hv => ?_⟩
      obtain ⟨hi, _⟩ := hat i v hv
      obtain ⟨a, ha, _⟩ := h.2.cells.atk recIIU_len (by decide) hi
      cases ha
    | some a =>
      obtain ⟨_, _, _, cells, hb, hsp, _⟩ := h.2
      obtain ⟨b, o, sp⟩ := a
      simp only at hsp hb
      subst hsp
      refine ⟨b, o, hb.lt, fun i v hv => ⟨rfl, fun j u hu => ?_⟩⟩
      obtain ⟨hi, rfl⟩ := hat i v hv
      obtain ⟨a, ha, hc⟩ := h.2.cells.atk recIIU_len (by decide) hi
      cases ha
      have := hc j u hu
      rw [add_lit, add_lit] at this
      exact this
  obtain ⟨bq, o, hbq, hc⟩ := hcell
  have := Tryd.last_in (enN l l.length) (by rw [hlen]; omega) (fun i v hv => by obtain ⟨_, rfl⟩ := hat i v hv; rfl) p bq o c f t w hbq hc
  rw [hlen, enN_last] at this
  exact this
/-- One of a list of records: a part of it is written. -/
theorem LsR.wr {α : Type} {f : α → List Value} {sz : Nat} {T : TypeId} {F : Fp} {p : Option Addr} {c : Nat} {l : List α} (hf : ∀ x, (f x).length = sz) (h : LsR f sz T w F (p, c, l)) {i : Nat} (hi : i < l.length) {j : Nat} {v : Value} {y : α} (hj : j + 1 ≤ sz) (hy : f y = setL (f l[i]) j [v]) {K : World → Prop} (hK : ∀ w', Turn (LsR f sz T) w w' F (p, c, l.set i y) → K w') :
    ∃ a, p = some a ∧ Wr w ((a.add (i * sz)).add j) [v] K := by
  obtain ⟨a, ha, _⟩ := h.2.cells.atk hf (by omega) hi
  simp only at ha
  subst ha
  refine ⟨a, rfl, ?_⟩
  have hS := h.2
  simp only at hS
  have e : (a.add (i * sz)).add j = a.add (i * sz + j) := by
    obtain ⟨b, o, sp⟩ := a
    have hsp : sp = none := by obtain ⟨_, _, _, cells, _, h, _⟩ := hS; exact h
    subst hsp
    rw [add_lit, add_lit, add_lit]
    congr 1
    omega
  rw [e]
  refine hS.wr (o := i * sz + j) (vs := [v]) (by simp only [List.length_singleton]; have : (i + 1) * sz ≤ l.length * sz := Nat.mul_le_mul_right _ hi; rw [Nat.add_mul] at this; omega) fun w' hS' hU => hK w' ?_
  rw [setL_flat hf hi (by simpa using hj) hy] at hS'
  exact ⟨fpS (some a), ⟨fun _ => Iff.rfl, by simp only [List.length_set]; exact hS'⟩, hU.mono (fun i _ hi => (h.1 i).2 hi), fun i hi => .inl ((h.1 i).2 hi)⟩
theorem Ls.wr {T : TypeId} {F : Fp} {p : Option Addr} {c : Nat} {l : List Int} (h : Ls T w F (p, c, l)) {i : Nat} (hi : i < l.length) {v : Int} {K : World → Prop} (hK : ∀ w', Turn (Ls T) w w' F (p, c, l.set i v) → K w') :
    ∃ a, p = some a ∧ Wr w (a.add (i * 1)) [.int .i64 v] K := by
  obtain ⟨a, ha, _⟩ := h.2.cells.at1 hi
  simp only at ha
  subst ha
  refine ⟨a, rfl, ?_⟩
  have hS := h.2
  simp only at hS
  refine hS.wr (o := i * 1) (vs := [.int .i64 v]) (by simp; omega) fun w' hS' hU => hK w' ?_
  rw [Nat.mul_one, setL_map1 hi] at hS'
  exact ⟨fpS (some a), ⟨fun _ => Iff.rfl, by simp only [List.length_set]; exact hS'⟩, hU.mono (fun i _ hi => (h.1 i).2 hi), fun i hi => .inl ((h.1 i).2 hi)⟩
theorem splan_ok (n : Int) (m : BV) {p : Option Addr} {l : List TI} {c : Nat} (h : Cells w p (l.flatMap recIIU)) (hl : l.length ≤ 1000) (hTab : Tab w) (hz : 0 < w.heap.size) :
    Calls Tryd.prog 16 #[.int .i64 n, .int .u64 (mi m), .slice p l.length c] w fun e w' =>
      (mayE n m l ≠ 0 ∧ e = .returned (.tuple #[.slice none 0 0, .int .i64 (mayE n m l)]) ∧ Upd no w w') ∨
      (mayE n m l = 0 ∧ ∃ k s p' c', runP m l k = some s ∧ stepP m s = none ∧ e = .returned (.tuple #[.slice p' s.1.length c', .int .i64 0]) ∧ LocR recIII 3 w w' 57 p' c' s.1) := by
  refine u16 ?_
  rw [t16]
  refine ⟨(smay_ok n m h hl).mono ?_⟩
  rintro e w1 ⟨rfl, hU1⟩
  refine ⟨_, rfl, fun g => .inl ⟨by simpa using g, rfl, hU1⟩, fun g => ?_⟩
  have g : mayE n m l = 0 := by simpa using g
  obtain ⟨hn, hm, hw, hP⟩ := mayE_ok g
  obtain ⟨N, rfl⟩ : ∃ N : Nat, n = N := ⟨n.toNat, by omega⟩
  refine ⟨(sclone_ok (h.no hU1) hl).mono ?_⟩
  rintro e w2 ⟨pl, cl, rfl, hL2⟩
  have hM : Mine w w2 (LsR recIIU 3 59) (pl, cl, l) := Mine.new (B := LsR recIIU 3 59) (t := (pl, cl, l)) (G := fpS pl) hU1 hL2.U ⟨fun _ => Iff.rfl, hL2.S⟩ hL2.F
  clear hL2
  refine ⟨_, _, _, rfl, ⟨(sloads_ok (N : Int) hM.turn.choose_spec.1.cells hl).mono ?_⟩⟩
  rintro e w3 ⟨pd, cd, rfl, hL3⟩
  have hle : loadsE (N : Int) l = ldL N l := by rw [loadsE, if_pos hn, Int.toNat_natCast]
  rw [hle] at hL3 ⊢
  replace hM : Mine w w3 (Star (LsR recIIU 3 59) (Ls 3)) ((pl, cl, l), (pd, cd, ldL N l)) := hM.add hL3.U ⟨fun _ => Iff.rfl, hL3.S⟩ hL3.F
  clear hL3
  replace hM : Mine w w3 (Star (Star (LsR recIIU 3 59) (Ls 3)) (LsR recIII 3 57)) (((pl, cl, l), (pd, cd, ldL N l)), (none, 0, [])) := hM.add (Upd.refl _ _) (LsR.nil _ _ _ _) (fun _ h => h.elim)
  refine ⟨_, _, _, rfl, ⟨WP_loop okProg (M := M16) (σ := Nat × PS × Option Addr × Nat) (fun x => e16_0 (mi m) pl x.2.1.2.length cl pd (ldL N x.2.1.2).length cd x.2.2.1 x.2.1.1.length x.2.2.2)
    (fun x w' => runP m l x.1 = some x.2.1 ∧ Mine w w' (Star (Star (LsR recIIU 3 59) (Ls 3)) (LsR recIII 3 57)) (((pl, cl, x.2.1.2), (pd, cd, ldL N x.2.1.2)), (x.2.2.1, x.2.2.2, x.2.1.1))) (fun x _ => sqN 64 x.2.1.2) (0, ([], l), none, 0) ⟨rfl, rfl, rfl, rfl, trivial⟩ ⟨rfl, hM⟩ ?_⟩⟩
  clear hM
  rintro ⟨k, s, po, co⟩ w4 ⟨hR, hM⟩
  simp only at hR hM ⊢
  have hI := runP_I hm hP hR
  have hsl : s.2.length ≤ 64 := hI.plan.len
  have hcl : ∀ c ∈ cs m, c < (ldL N s.2).length := fun c hc => by rw [ldL_len]; exact cs_within hw c hc
  rw [t16_0]
  refine ⟨(sbest1_ok (Ls.cells hM.lr.choose_spec.1) (hTab.no hM.U) m hcl).mono ?_⟩
  rw [bestOf_ld hw]
  rintro e w5 ⟨rfl, hU⟩
  replace hM := hM.upd hU
  clear hU
  refine ⟨_, rfl, ⟨(sbest2_ok (Ls.cells hM.lr.choose_spec.1) (hTab.no hM.U) m hcl).mono ?_⟩⟩
  rw [bestOf_ld hw]
  rintro e w6 ⟨rfl, hU⟩
  replace hM := hM.upd hU
  clear hU
  refine ⟨_, rfl, ⟨(slast_ok hM.ll.choose_spec.1 (by omega) (Nat.lt_of_lt_of_le hz hM.U.size) _ _).mono ?_⟩⟩
  rintro e w7 ⟨rfl, hU⟩
  replace hM := hM.upd hU
  clear hU
  refine ⟨_, rfl, ?_⟩
  intro w8 q1 q2 q3 q4
  replace hM := hM.upd (Upd.same no q1 q2 q3 q4)
  clear q1 q2 q3 q4
  obtain ⟨a1, _⟩ := bestOf_in (gt := gtB) hm s.2
  obtain ⟨b1, _⟩ := bestOf_in (gt := ltB) hm s.2
  have ha2 := cs_within hw _ (mem_upto.2 ⟨(hs_in a1).1, (hs_in a1).2, a1⟩)
  have hb2 := cs_within hw _ (mem_upto.2 ⟨(hs_in b1).1, (hs_in b1).2, b1⟩)
  have fin : stepP m s = none → (mayE (N : Int) m l ≠ 0 ∧ Ending.returned (.tuple #[.slice po s.1.length co, .int .i64 0]) = .returned (.tuple #[.slice none 0 0, .int .i64 (mayE (N : Int) m l)]) ∧ Upd no w w8) ∨
      (mayE (N : Int) m l = 0 ∧ ∃ k s' p' c', runP m l k = some s' ∧ stepP m s' = none ∧ Ending.returned (.tuple #[.slice po s.1.length co, .int .i64 0]) = .returned (.tuple #[.slice p' s'.1.length c', .int .i64 0]) ∧ LocR recIII 3 w w8 57 p' c' s'.1) := by
    intro hst
    obtain ⟨F, ⟨F1, F2, _, h2, h3, _⟩, hU, hF⟩ := hM
    exact .inr ⟨g, k, s, po, co, hR, hst, rfl, hU, h2.2, fun i hi => hF i ((h3 i).2 (.inr ((h2.1 i).2 hi)))⟩
  obtain ⟨A, hA, _⟩ := hs_nat a1
  obtain ⟨B, hB, _⟩ := hs_nat b1
  have hAN : A < N := by omega
  have hBN : B < N := by omega
  have hcA := cnC_le s.2 (A : Int)
  have hcB := cnC_le s.2 (B : Int)
  obtain ⟨aa, haa, hca⟩ := (Ls.cells hM.lr.choose_spec.1).at1 (i := A) (by rw [ldL_len]; exact hAN)
  obtain ⟨ab, hab, hcb⟩ := (Ls.cells hM.lr.choose_spec.1).at1 (i := B) (by rw [ldL_len]; exact hBN)
  rw [ldL_at _ hAN] at hca
  rw [ldL_at _ hBN] at hcb
  have hlo := stepP_lo (m := m) (s := s)
  have hno := stepP_no (m := m) (s := s)
  have hcs := step_cases hm s
  rw [hA, hB] at hlo hno hcs ⊢
  simp only [ldL_len]
  refine ⟨⟨by omega, by omega⟩, aa, haa, _, hca, ⟨by omega, by omega⟩, ab, hab, _, hcb, ?_⟩
  rw [w64 (x := (cnC s.2 (A : Int) : Int) - (cnC s.2 (B : Int) : Int)) (by omega)]
  refine ⟨fun g1 => ⟨fun g2 => fin (hno (of_decide_eq_true g2)), fun g2 => ?_⟩, fun g1 => fin (hlo (of_decide_eq_true g1))⟩
  have g1 := of_decide_eq_false g1
  have g2 := of_decide_eq_false g2
  rcases hcs with ⟨_, hk | hk⟩ | ⟨i, a, b, hS, hk⟩
  · exact absurd hk g1
  · rw [hk] at g2; omega
  · have ea : A = a := by have := hS.ea; omega
    have eb : B = b := by have := hS.eb; omega
    subst ea
    subst eb
    have hi := hS.lt
    rw [hS.el]
    have hne : A ≠ B := fun e => by have := hS.dif; rw [e] at this; omega
    obtain ⟨al, hal, hcl2⟩ := (LsR.cells hM.ll.choose_spec.1).atk recIIU_len (by decide) hi
    simp only [Int.toNat_natCast]
    refine ⟨⟨by omega, by omega⟩, al, hal, _, hcl2 0 _ rfl, ⟨fun w9 hN => ?_⟩⟩
    obtain ⟨_, hA3, hT3⟩ := hM.right
    have hk64 : s.1.length ≤ 5000 := by
      have h1 := hI.wt
      have h2 := sqN_le hP.len 64
      rw [hI.len]; omega
    obtain ⟨po', co', w10, hr, hT⟩ := LsR.push elMv recIII_len recIII_one hA3 (by omega) (by omega) (x := (s.2[i].1, (A : Int), (B : Int))) rfl hN 37
    replace hM := hT3 _ _ hT
    clear hA3 hT3 hT hN
    refine ⟨po', _, co', w10, hr, ⟨by omega, by omega⟩, ?_⟩
    obtain ⟨_, hA1, hT1⟩ := hM.ll
    refine LsR.wr recIIU_len hA1 hi (j := 1) (y := (s.2[i].1, (B : Int), s.2[i].2.2)) (by omega) rfl fun w11 hT => ?_
    replace hM := hT1 _ _ hT
    clear hA1 hT1 hT
    simp only at hM
    obtain ⟨_, hA2, hT2⟩ := hM.lr
    obtain ⟨aa, haa, hca⟩ := (Ls.cells hA2).at1 (i := A) (by rw [ldL_len]; exact hAN)
    rw [ldL_at _ hAN] at hca
    refine ⟨⟨by omega, by omega⟩, aa, haa, _, hca, ⟨by omega, by omega⟩, ?_⟩
    rw [w64 (x := (cnC s.2 (A : Int) : Int) - 1) (by omega)]
    refine Ls.wr hA2 (i := A) (by rw [ldL_len]; exact hAN) fun w12 hT => ?_
    replace hM := hT2 _ _ hT
    clear hA2 hT2 hT
    simp only at hM
    obtain ⟨_, hA2, hT2⟩ := hM.lr
    obtain ⟨ab, hab, hcb⟩ := (Ls.cells hA2).at1 (i := B) (by simp [ldL_len]; exact hBN)
    rw [List.getElem_set_ne hne, ldL_at _ hBN] at hcb
    refine ⟨⟨by omega, by omega⟩, ab, hab, _, hcb, ⟨by omega, by omega⟩, ?_⟩
    rw [w64 (x := (cnC s.2 (B : Int) : Int) + 1) (by omega)]
    refine Ls.wr hA2 (i := B) (by simp [ldL_len]; exact hBN) fun w13 hT => ?_
    replace hM := hT2 _ _ hT
    simp only at hM
    rw [ldL_move hi hAN hBN hne hS.cpu s.2[i].1 s.2[i].2.2] at hM
    have hw2 := sqN_move (n := 64) hi (a := A) (b := B) (by omega) (by omega) hS.cpu hS.dif s.2[i].1 s.2[i].2.2
    refine ⟨(k + 1, (s.1 ++ [(s.2[i].1, (A : Int), (B : Int))], s.2.set i (s.2[i].1, (B : Int), s.2[i].2.2)), po', co'), ⟨rfl, by simp only [List.length_set]; rfl, rfl, rfl, trivial⟩, ⟨?_, hM⟩, by dsimp only; omega⟩
    show (runP m l k).bind (stepP m) = _
    rw [hR]
    exact hk
def idP (mv : MV) (l : List TI) : Int := match l.findIdx? (moP mv) with
  | none => -1
  | some i => i
theorem ssame_ok (x : TI) {b : Nat} {mv : MV} (h : Blk w b (recIII mv) 57) : Calls Tryd.prog 43 #[.agg #[.int .i64 x.1, .int .i64 x.2.1, .int .u64 (mi x.2.2)], .pointer (some ⟨b, 0, none⟩)] w fun e w' => e = .returned (.bool (moP mv x)) ∧ Upd no w w' := by
  refine u43 ?_
  rw [t43]
  refine ⟨fun w1 hN => ?_⟩
  have hB : Blk w1 w.heap.size (recIIU x) 59 := hN.blk'
  have hb := h.upd (hN.upd no) id
  refine ⟨_, hB.cell rfl, _, hb.cell rfl, fun g => ⟨_, hB.cell rfl, _, hb.cell rfl, ?_, hN.upd no⟩, fun g => ⟨?_, hN.upd no⟩⟩
  · unfold moP; rw [g, Bool.true_and]
  · unfold moP; rw [g, Bool.false_and]
theorem sidx_ok {p : Option Addr} {l : List TI} {c : Nat} (h : Cells w p (l.flatMap recIIU)) (hl : l.length ≤ 1000) {b : Nat} {mv : MV} (hb : Blk w b (recIII mv) 57) :
    Calls Tryd.prog 42 #[.slice p l.length c, .func (.func 43) #[] #[.pointer (some ⟨b, 0, none⟩)]] w fun e w' => e = .returned (.int .i64 (idP mv l)) ∧ Upd no w w' := by
  refine u42 ?_
  rw [t42]
  refine ⟨WP_loop okProg (M := M42) (σ := Nat) (fun j => e42_1 p l.length c ⟨b, 0, none⟩ (l.length : Int) (j : Int)) (fun j w' => j ≤ l.length ∧ (∀ i (hi : i < l.length), i < j → moP mv l[i] = false) ∧ Upd no w w') (fun j _ => l.length - j) 0 ⟨rfl, rfl, rfl, rfl, trivial⟩ ⟨by omega, fun i _ h => by omega, Upd.refl _ _⟩ ?_⟩
  rintro j w1 ⟨j1, j2, hU⟩
  rw [t42_1]
  refine ⟨fun g => ?_, fun g => ?_⟩
  · have hj : j < l.length := by simp at g; omega
    obtain ⟨a, ha, hc⟩ := (h.no hU).atk recIIU_len (by decide) hj
    refine ⟨⟨by omega, by omega⟩, a, ha, _, hc 0 _ rfl, _, hc 1 _ rfl, _, hc 2 _ rfl, ⟨(ssame_ok l[j] (hb.upd hU id)).mono ?_⟩⟩
    rintro e w2 ⟨rfl, hU2⟩
    refine ⟨_, rfl, fun g1 => ⟨?_, hU.and hU2⟩, fun g1 => ⟨j + 1, ⟨rfl, rfl, rfl, by rw [w64 (by omega)]; rfl, trivial⟩, ⟨by omega, fun i hi hij => ?_, hU.and hU2⟩, by omega⟩⟩
    · have : l.findIdx? (moP mv) = some j := List.findIdx?_eq_some_iff_getElem.2 ⟨hj, g1, fun i hi => by simp [j2 i (by omega) hi]⟩
      unfold idP
      rw [this]
    · by_cases e : i = j
      · subst e; exact g1
      · exact j2 i hi (by omega)
  · have : j = l.length := by simp at g; omega
    subst this
    have : l.findIdx? (moP mv) = none := List.findIdx?_eq_none_iff.2 fun x hx => by obtain ⟨i, hi, rfl⟩ := List.getElem_of_mem hx; exact j2 i hi hi
    unfold idP
    rw [this]
    exact ⟨rfl, hU⟩
theorem sapply_ok {p : Option Addr} {l : List TI} {c : Nat} (h : Cells w p (l.flatMap recIIU)) (hl : l.length ≤ 1000) {q : Option Addr} {mvs : List MV} {d : Nat} (hq : Cells w q (mvs.flatMap recIII)) (hlm : mvs.length ≤ 10000) :
    Calls Tryd.prog 18 #[.slice p l.length c, .slice q mvs.length d] w fun e w' =>
      (apL l mvs = none ∧ e = .returned (.tuple #[.slice none 0 0, .int .i64 4]) ∧ Upd no w w') ∨
      ∃ l' p' c', apL l mvs = some l' ∧ e = .returned (.tuple #[.slice p' l'.length c', .int .i64 0]) ∧ LocR recIIU 3 w w' 59 p' c' l' := by
  refine u18 ?_
  rw [t18]
  refine ⟨(sclone_ok h hl).mono ?_⟩
  rintro e w1 ⟨pl, cl, rfl, hL⟩
  have hM : Mine w w1 (LsR recIIU 3 59) (pl, cl, l) := Mine.new (B := LsR recIIU 3 59) (t := (pl, cl, l)) (G := fpS pl) (Upd.refl _ _) hL.U ⟨fun _ => Iff.rfl, hL.S⟩ hL.F
  clear hL
  refine ⟨_, _, _, rfl, ⟨WP_loop okProg (M := M18) (σ := Nat × List TI) (fun s => e18_1 pl s.2.length cl q mvs.length d (mvs.length : Int) (s.1 : Int)) (fun s w' => s.1 ≤ mvs.length ∧ apL l (mvs.take s.1) = some s.2 ∧ Mine w w' (LsR recIIU 3 59) (pl, cl, s.2)) (fun s _ => mvs.length - s.1) (0, l) ⟨rfl, rfl, rfl, rfl, trivial⟩ ⟨by simp, rfl, hM⟩ ?_⟩⟩
  clear hM
  rintro ⟨j, x⟩ w2 ⟨j1, j2, hM⟩
  simp only at j1 j2 hM ⊢
  have hxl := apL_len j2
  rw [t18_1]
  refine ⟨fun g => ?_, fun g => ?_⟩
  · have hj : j < mvs.length := by simp at g; omega
    have e1 : apL l (mvs.take (j + 1)) = ap1 x mvs[j] := by rw [List.take_succ_eq_append_getElem hj, apL_snoc, j2]; rfl
    obtain ⟨a, ha, hc⟩ := (hq.no hM.U).atk recIII_len (by decide) hj
    refine ⟨⟨by omega, by omega⟩, a, ha, _, hc 0 _ rfl, _, hc 1 _ rfl, _, hc 2 _ rfl, ⟨fun w3 hN => ?_⟩⟩
    replace hM : Mine w w3 (Star (LsR recIIU 3 59) (Rw w2.heap.size 57 recIII)) ((pl, cl, x), (0, 0, 0)) := hM.add (hN.upd no) (Rw.new (enc := recIII) (s := (0, 0, 0)) hN rfl) (fun _ h => Nat.le_of_eq h.symm)
    obtain ⟨_, hA, hT⟩ := hM.right
    refine hA.blk.wr0 (by simp [recIII]) fun w4 hW => ?_
    replace hM : Mine w w4 (Star (LsR recIIU 3 59) (Rw w2.heap.size 57 recIII)) ((pl, cl, x), mvs[j]) := hT _ _ (hA.turned (s' := mvs[j]) hW.U hW.blk')
    clear hA hT hW hN
    generalize w2.heap.size = b3 at hM ⊢
    refine ⟨(sidx_ok (LsR.cells hM.left.choose_spec.1) (by omega) (atBlk hM.right)).mono ?_⟩
    rintro e w5 ⟨rfl, hU⟩
    replace hM := hM.upd hU
    have hBm : Blk w5 b3 (recIII mvs[j]) 57 := atBlk hM.right
    unfold idP
    cases hf : x.findIdx? (moP mvs[j]) with
    | none =>
      refine ⟨_, rfl, fun _ => .inl ⟨?_, rfl, hM.U⟩, fun g => by simp at g⟩
      have e2 : ap1 x mvs[j] = none := by unfold ap1; rw [hf]
      rw [← List.take_append_drop (j + 1) mvs, apL_app, e1, e2]
      rfl
    | some i =>
      obtain ⟨hi, _⟩ := List.findIdx?_eq_some_iff_getElem.1 hf
      have e2 : ap1 x mvs[j] = some (x.set i (x[i].1, (mvs[j]).2.2, x[i].2.2)) := by unfold ap1; rw [hf]; simp [hi]
      dsimp only
      refine ⟨_, rfl, fun g => absurd (of_decide_eq_true g) (by omega), fun _ => ⟨_, hBm.cell rfl, ⟨by omega, by omega⟩, ?_⟩⟩
      obtain ⟨_, hA, hT⟩ := hM.left
      simp only [Int.toNat_natCast]
      refine LsR.wr recIIU_len hA hi (j := 1) (y := (x[i].1, (mvs[j]).2.2, x[i].2.2)) (by omega) rfl fun w6 hT6 => ?_
      exact ⟨(j + 1, x.set i (x[i].1, (mvs[j]).2.2, x[i].2.2)), ⟨by simp only [List.length_set]; rfl, rfl, rfl, by rw [w64 (by omega)]; rfl, trivial⟩, ⟨by simp only; omega, by rw [e1, e2], (hT _ _ hT6).drop⟩, by simp only; omega⟩
  · have : j = mvs.length := by simp at g; omega
    subst this
    rw [List.take_length] at j2
    obtain ⟨F, hA, hU, hF⟩ := hM
    exact .inr ⟨x, pl, cl, j2, rfl, hU, hA.2, fun i hi => hF i ((hA.1 i).2 hi)⟩
end
end Go.Dav
