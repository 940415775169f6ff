/- What the document's functions of things that are spread over cores come to. -/
import Derived.Test.YtfmehojcgdfghaaDoorSpread39
set_option linter.unusedVariables false
set_option linter.unusedSimpArgs false
namespace Go.Dav
open Go.Proofs
theorem elTr : ElemT Tryd.prog 22 54 3 24 [.int .i64 0, .int .i64 0, .int .u64 0] := ⟨by kernel_rfl, by kernel_rfl, rfl, by omega⟩
theorem elMr : ElemT Tryd.prog 36 74 3 24 [.int .i64 0, .int .i64 0, .int .i64 0] := ⟨by kernel_rfl, by kernel_rfl, rfl, by omega⟩
section
variable {w : World}
theorem given_ok {p : Option Addr} {l : List TI} {c : Nat} (h : Cells w p (l.flatMap recIIU)) (hl : l.length ≤ 10000) :
    Calls Tryd.prog 10 #[.slice p l.length c] w fun e w' => ∃ p' c', e = .returned (.slice p' l.length c') ∧ LocR recIIU 3 w w' 59 p' c' l := by
  refine u10 ?_
  rw [t10]
  refine ⟨WP_loop okProg (M := M10) (σ := Nat × Option Addr × Nat) (fun s => e10_1 p l.length c s.2.1 (l.take s.1).length s.2.2 (s.1 : Int)) (fun s w' => s.1 ≤ l.length ∧ LocR recIIU 3 w w' 59 s.2.1 s.2.2 (l.take s.1)) (fun s _ => l.length - s.1) (0, none, 0) ⟨rfl, rfl, rfl, trivial⟩ ⟨by simp, LocR.nil (Upd.refl _ _) _⟩ ?_⟩
  rintro ⟨i, p1, c1⟩ w1 ⟨k1, hL⟩
  simp only at k1 hL ⊢
  rw [t10_1]
  refine ⟨fun g w2 q1 q2 q3 q4 => ?_, fun g => ?_⟩
  · have hi : i < l.length := by simpa using g
    have hL := hL.upd (Upd.same no q1 q2 q3 q4)
    obtain ⟨a, ha, hc⟩ := (h.no hL.U).atk recIIU_len (by decide) hi
    refine ⟨⟨by omega, by omega⟩, a, ha, _, hc 0 _ rfl, ⟨by omega, by omega⟩, a, ha, _, hc 1 _ rfl, ⟨by omega, by omega⟩, a, ha, _, hc 2 _ rfl, ⟨fun w3 hN => ?_⟩⟩
    obtain ⟨p', c', w4, hr, hL'⟩ := hL.push elTi recIIU_len recIIU_one (by simp; omega) (by simp; omega) (x := l[i]) rfl hN 28
    have e1 : l.take (i + 1) = l.take i ++ [l[i]] := List.take_succ_eq_append_getElem hi
    rw [← e1] at hr hL'
    exact ⟨p', _, c', w4, hr, (i + 1, p', c'), ⟨rfl, rfl, by rw [w64 (by omega)]; rfl, trivial⟩, ⟨by simp only; omega, hL'⟩, by simp only; omega⟩
  · have : i = l.length := by have := of_decide_eq_false g; omega
    subst this
    rw [List.take_length] at hL ⊢
    exact ⟨p1, c1, rfl, hL⟩
theorem taken_ok {p : Option Addr} {l : List TI} {c : Nat} (h : Cells w p (l.flatMap recIIU)) (hl : l.length ≤ 10000) :
    Calls Tryd.prog 24 #[.slice p l.length c] w fun e w' => ∃ p' c', e = .returned (.slice p' l.length c') ∧ LocR recIIU 3 w w' 54 p' c' l := by
  refine u24 ?_
  rw [t24]
  refine ⟨WP_loop okProg (M := M24) (σ := Nat × Option Addr × Nat) (fun s => e24_1 p l.length c s.2.1 (l.take s.1).length s.2.2 (s.1 : Int)) (fun s w' => s.1 ≤ l.length ∧ LocR recIIU 3 w w' 54 s.2.1 s.2.2 (l.take s.1)) (fun s _ => l.length - s.1) (0, none, 0) ⟨rfl, rfl, rfl, trivial⟩ ⟨by simp, LocR.nil (Upd.refl _ _) _⟩ ?_⟩
  rintro ⟨i, p1, c1⟩ w1 ⟨k1, hL⟩
  simp only at k1 hL ⊢
  rw [t24_1]
  refine ⟨fun g w2 q1 q2 q3 q4 => ?_, fun g => ?_⟩
  · have hi : i < l.length := by simpa using g
    have hL := hL.upd (Upd.same no q1 q2 q3 q4)
    obtain ⟨a, ha, hc⟩ := (h.no hL.U).atk recIIU_len (by decide) hi
    refine ⟨⟨by omega, by omega⟩, a, ha, _, hc 0 _ rfl, ⟨by omega, by omega⟩, a, ha, _, hc 1 _ rfl, ⟨by omega, by omega⟩, a, ha, _, hc 2 _ rfl, ⟨fun w3 hN => ?_⟩⟩
    obtain ⟨p', c', w4, hr, hL'⟩ := hL.push elTr recIIU_len recIIU_one (by simp; omega) (by simp; omega) (x := l[i]) rfl hN 22
    have e1 : l.take (i + 1) = l.take i ++ [l[i]] := List.take_succ_eq_append_getElem hi
    rw [← e1] at hr hL'
    exact ⟨p', _, c', w4, hr, (i + 1, p', c'), ⟨rfl, rfl, by rw [w64 (by omega)]; rfl, trivial⟩, ⟨by simp only; omega, hL'⟩, by simp only; omega⟩
  · have : i = l.length := by have := of_decide_eq_false g; omega
    subst this
    rw [List.take_length] at hL ⊢
    exact ⟨p1, c1, rfl, hL⟩
theorem given2_ok {p : Option Addr} {l : List MV} {c : Nat} (h : Cells w p (l.flatMap recIII)) (hl : l.length ≤ 10000) :
    Calls Tryd.prog 19 #[.slice p l.length c] w fun e w' => ∃ p' c', e = .returned (.slice p' l.length c') ∧ LocR recIII 3 w w' 57 p' c' l := by
  refine u19 ?_
  rw [t19]
  refine ⟨WP_loop okProg (M := M19) (σ := Nat × Option Addr × Nat) (fun s => e19_1 p l.length c s.2.1 (l.take s.1).length s.2.2 (s.1 : Int)) (fun s w' => s.1 ≤ l.length ∧ LocR recIII 3 w w' 57 s.2.1 s.2.2 (l.take s.1)) (fun s _ => l.length - s.1) (0, none, 0) ⟨rfl, rfl, rfl, trivial⟩ ⟨by simp, LocR.nil (Upd.refl _ _) _⟩ ?_⟩
  rintro ⟨i, p1, c1⟩ w1 ⟨k1, hL⟩
  simp only at k1 hL ⊢
  rw [t19_1]
  refine ⟨fun g w2 q1 q2 q3 q4 => ?_, fun g => ?_⟩
  · have hi : i < l.length := by simpa using g
    have hL := hL.upd (Upd.same no q1 q2 q3 q4)
    obtain ⟨a, ha, hc⟩ := (h.no hL.U).atk recIII_len (by decide) hi
    refine ⟨⟨by omega, by omega⟩, a, ha, _, hc 0 _ rfl, ⟨by omega, by omega⟩, a, ha, _, hc 1 _ rfl, ⟨by omega, by omega⟩, a, ha, _, hc 2 _ rfl, ⟨fun w3 hN => ?_⟩⟩
    obtain ⟨p', c', w4, hr, hL'⟩ := hL.push elMv recIII_len recIII_one (by simp; omega) (by simp; omega) (x := l[i]) rfl hN 37
    have e1 : l.take (i + 1) = l.take i ++ [l[i]] := List.take_succ_eq_append_getElem hi
    rw [← e1] at hr hL'
    exact ⟨p', _, c', w4, hr, (i + 1, p', c'), ⟨rfl, rfl, by rw [w64 (by omega)]; rfl, trivial⟩, ⟨by simp only; omega, hL'⟩, by simp only; omega⟩
  · have : i = l.length := by have := of_decide_eq_false g; omega
    subst this
    rw [List.take_length] at hL ⊢
    exact ⟨p1, c1, rfl, hL⟩
theorem taken2_ok {p : Option Addr} {l : List MV} {c : Nat} (h : Cells w p (l.flatMap recIII)) (hl : l.length ≤ 10000) :
    Calls Tryd.prog 22 #[.slice p l.length c] w fun e w' => ∃ p' c', e = .returned (.slice p' l.length c') ∧ LocR recIII 3 w w' 74 p' c' l := by
  refine u22 ?_
  rw [t22]
  refine ⟨WP_loop okProg (M := M22) (σ := Nat × Option Addr × Nat) (fun s => e22_1 p l.length c s.2.1 (l.take s.1).length s.2.2 (s.1 : Int)) (fun s w' => s.1 ≤ l.length ∧ LocR recIII 3 w w' 74 s.2.1 s.2.2 (l.take s.1)) (fun s _ => l.length - s.1) (0, none, 0) ⟨rfl, rfl, rfl, trivial⟩ ⟨by simp, LocR.nil (Upd.refl _ _) _⟩ ?_⟩
  rintro ⟨i, p1, c1⟩ w1 ⟨k1, hL⟩
  simp only at k1 hL ⊢
  rw [t22_1]
  refine ⟨fun g w2 q1 q2 q3 q4 => ?_, fun g => ?_⟩
  · have hi : i < l.length := by simpa using g
    have hL := hL.upd (Upd.same no q1 q2 q3 q4)
    obtain ⟨a, ha, hc⟩ := (h.no hL.U).atk recIII_len (by decide) hi
    refine ⟨⟨by omega, by omega⟩, a, ha, _, hc 0 _ rfl, ⟨by omega, by omega⟩, a, ha, _, hc 1 _ rfl, ⟨by omega, by omega⟩, a, ha, _, hc 2 _ rfl, ⟨fun w3 hN => ?_⟩⟩
    obtain ⟨p', c', w4, hr, hL'⟩ := hL.push elMr recIII_len recIII_one (by simp; omega) (by simp; omega) (x := l[i]) rfl hN 36
    have e1 : l.take (i + 1) = l.take i ++ [l[i]] := List.take_succ_eq_append_getElem hi
    rw [← e1] at hr hL'
    exact ⟨p', _, c', w4, hr, (i + 1, p', c'), ⟨rfl, rfl, by rw [w64 (by omega)]; rfl, trivial⟩, ⟨by simp only; omega, hL'⟩, by simp only; omega⟩
  · have : i = l.length := by have := of_decide_eq_false g; omega
    subst this
    rw [List.take_length] at hL ⊢
    exact ⟨p1, c1, rfl, hL⟩
theorem eqTI (x y : TI) (w : World) : ∃ b, (Op.equal 54 (.agg (recIIU x).toArray) (.agg (recIIU y).toArray)).run Tryd.prog w = .ok b w ∧ (b = true ↔ x = y) := by
  refine ⟨_, run_eq_struct (recIIU x) (by kernel_rfl) (by kernel_rfl) (by kernel_rfl) (vs := recIIU y) (by rfl) w, ?_⟩
  simp only [recIIU, eqL, scEq, Bool.and_true, Bool.and_eq_true, beq_iff_eq, mi_inj]
  constructor
  · rintro ⟨h1, h2, h3⟩
    exact Prod.ext h1 (Prod.ext h2 h3)
  · rintro rfl; exact ⟨rfl, rfl, rfl⟩
theorem rSame_ok {p q : Option Addr} {l m : List TI} {c d : Nat} (h : Cells w p (l.flatMap recIIU)) (k : Cells w q (m.flatMap recIIU)) (hb : l.length ≤ 10000) :
    Calls Tryd.prog 23 #[.slice p l.length c, .slice q m.length d] w fun e w' => e = .returned (.bool (decide (l = m))) ∧ Upd no w w' := by
  refine u23 ?_
  rw [t23]
  refine ⟨fun g => ⟨?_, Upd.refl _ _⟩, fun g => ?_⟩
  · have : l ≠ m := fun e => by subst e; simp at g
    simp [this]
  · have hl : l.length = m.length := by simp at g; omega
    refine ⟨WP_loop okProg (M := M23) (σ := Nat) (fun i => e23_1 p l.length c q m.length d i) (fun i w' => i ≤ l.length ∧ l.take i = m.take i ∧ Upd no w w') (fun i _ => l.length - i) 0 ⟨rfl, rfl, rfl, trivial⟩ ⟨by omega, by simp, Upd.refl _ _⟩ ?_⟩
    rintro i w1 ⟨h1, h2, hU⟩
    rw [t23_1]
    refine ⟨fun hlt w2 q1 q2 q3 q4 => ?_, fun hge => ⟨?_, hU⟩⟩
    · have hi : i < l.length := by simpa using hlt
      have hi' : i < m.length := by omega
      have hU2 := hU.trans (Upd.same no q1 q2 q3 q4) (fun _ _ h => h)
      obtain ⟨a, ha, hc⟩ := (h.no hU2).atk recIIU_len (by decide) hi
      obtain ⟨b, hb, hc'⟩ := (k.no hU2).atk recIIU_len (by decide) hi'
      obtain ⟨bb, he, hbb⟩ := eqTI l[i] m[i] w2
      refine ⟨⟨by omega, by omega⟩, a, ha, _, hc 0 _ rfl, _, hc 1 _ rfl, _, hc 2 _ rfl, ⟨by omega, by omega⟩, b, hb, _, hc' 0 _ rfl, _, hc' 1 _ rfl, _, hc' 2 _ rfl, bb, he, rfl, fun g2 => ⟨?_, hU2⟩, fun g2 => ?_⟩
      · have : l ≠ m := fun e => by
          have : bb = true := hbb.2 (by simp only [e])
          rw [this] at g2; cases g2
        simp [this]
      · have he : l[i] = m[i] := hbb.1 (by simpa using g2)
        exact ⟨i + 1, ⟨rfl, rfl, by rw [w64 (by omega)]; rfl, trivial⟩, ⟨by omega, by rw [List.take_succ_eq_append_getElem hi, List.take_succ_eq_append_getElem hi', h2, he], hU2⟩, by omega⟩
    · have : i = l.length := by simp at hge; omega
      subst this
      rw [List.take_length, hl, List.take_length] at h2
      simp [h2]
theorem eqMV (x y : MV) (w : World) : ∃ b, (Op.equal 74 (.agg (recIII x).toArray) (.agg (recIII y).toArray)).run Tryd.prog w = .ok b w ∧ (b = true ↔ x = y) := by
  refine ⟨_, run_eq_struct (recIII x) (by kernel_rfl) (by kernel_rfl) (by kernel_rfl) (vs := recIII y) (by rfl) w, ?_⟩
  simp only [recIII, eqL, scEq, Bool.and_true, Bool.and_eq_true, beq_iff_eq, mi_inj]
  constructor
  · rintro ⟨h1, h2, h3⟩
    exact Prod.ext h1 (Prod.ext h2 h3)
  · rintro rfl; exact ⟨rfl, rfl, rfl⟩
theorem rMoves_ok {p q : Option Addr} {l m : List MV} {c d : Nat} (h : Cells w p (l.flatMap recIII)) (k : Cells w q (m.flatMap recIII)) (hb : l.length ≤ 10000) :
    Calls Tryd.prog 21 #[.slice p l.length c, .slice q m.length d] w fun e w' => e = .returned (.bool (decide (l = m))) ∧ Upd no w w' := by
  refine u21 ?_
  rw [t21]
  refine ⟨fun g => ⟨?_, Upd.refl _ _⟩, fun g => ?_⟩
  · have : l ≠ m := fun e => by subst e; simp at g
    simp [this]
  · have hl : l.length = m.length := by simp at g; omega
    refine ⟨WP_loop okProg (M := M21) (σ := Nat) (fun i => e21_1 p l.length c q m.length d i) (fun i w' => i ≤ l.length ∧ l.take i = m.take i ∧ Upd no w w') (fun i _ => l.length - i) 0 ⟨rfl, rfl, rfl, trivial⟩ ⟨by omega, by simp, Upd.refl _ _⟩ ?_⟩
    rintro i w1 ⟨h1, h2, hU⟩
    rw [t21_1]
    refine ⟨fun hlt w2 q1 q2 q3 q4 => ?_, fun hge => ⟨?_, hU⟩⟩
    · have hi : i < l.length := by simpa using hlt
      have hi' : i < m.length := by omega
      have hU2 := hU.trans (Upd.same no q1 q2 q3 q4) (fun _ _ h => h)
      obtain ⟨a, ha, hc⟩ := (h.no hU2).atk recIII_len (by decide) hi
      obtain ⟨b, hb, hc'⟩ := (k.no hU2).atk recIII_len (by decide) hi'
      obtain ⟨bb, he, hbb⟩ := eqMV l[i] m[i] w2
      refine ⟨⟨by omega, by omega⟩, a, ha, _, hc 0 _ rfl, _, hc 1 _ rfl, _, hc 2 _ rfl, ⟨by omega, by omega⟩, b, hb, _, hc' 0 _ rfl, _, hc' 1 _ rfl, _, hc' 2 _ rfl, bb, he, rfl, fun g2 => ⟨?_, hU2⟩, fun g2 => ?_⟩
      · have : l ≠ m := fun e => by
          have : bb = true := hbb.2 (by simp only [e])
          rw [this] at g2; cases g2
        simp [this]
      · have he : l[i] = m[i] := hbb.1 (by simpa using g2)
        exact ⟨i + 1, ⟨rfl, rfl, by rw [w64 (by omega)]; rfl, trivial⟩, ⟨by omega, by rw [List.take_succ_eq_append_getElem hi, List.take_succ_eq_append_getElem hi', h2, he], hU2⟩, by omega⟩
    · have : i = l.length := by simp at hge; omega
      subst this
      rw [List.take_length, hl, List.take_length] at h2
      simp [h2]

theorem rload_ok {p : Option Addr} {l : List TI} {c : Nat} (h : Cells w p (l.flatMap recIIU)) (hl : l.length ≤ 1000) (k : Int) :
    Calls Tryd.prog 27 #[.slice p l.length c, .int .i64 k] w fun e w' => e = .returned (.int .i64 (cnC l k)) ∧ w' = w := by
  refine u27 ?_
  rw [t27]
  refine ⟨WP_loop okProg (M := M27) (σ := Nat) (fun j => e27_1 p l.length c k (cnC (l.take j) k : Int) (j : Int)) (fun j w' => j ≤ l.length ∧ w' = w) (fun j _ => l.length - j) 0 ⟨rfl, rfl, rfl, rfl, trivial⟩ ⟨by omega, rfl⟩ ?_⟩
  rintro j w1 ⟨j1, rfl⟩
  rw [t27_1]
  refine ⟨fun g => ?_, fun g => ?_⟩
  · have hj : j < l.length := by simpa using g
    obtain ⟨a, ha, hc⟩ := h.atk recIIU_len (by decide) hj
    have e1 : cnC (l.take (j + 1)) k = cnC (l.take j) k + if l[j].2.1 = k then 1 else 0 := by rw [List.take_succ_eq_append_getElem hj, cnC_snoc]
    have hle := cnC_le (l.take j) k
    simp only [List.length_take] at hle
    refine ⟨⟨by omega, by omega⟩, a, ha, _, hc 1 _ rfl, fun g1 => ?_, fun g1 => ?_⟩
    · rw [if_pos (eq_of_beq g1)] at e1
      exact ⟨j + 1, ⟨rfl, rfl, by rw [e1, w64 (x := (cnC (l.take j) k : Int) + 1) (by omega)]; rfl, by rw [w64 (x := (j : Int) + 1) (by omega)]; rfl, trivial⟩, ⟨by omega, rfl⟩, by omega⟩
    · rw [if_neg (ne_of_beq_false g1)] at e1
      exact ⟨j + 1, ⟨rfl, rfl, by rw [e1]; rfl, by rw [w64 (x := (j : Int) + 1) (by omega)]; rfl, trivial⟩, ⟨by omega, rfl⟩, by omega⟩
  · have : j = l.length := by simp at g; omega
    subst this
    rw [List.take_length]
    exact ⟨rfl, rfl⟩
theorem ldL_succ (N : Nat) (l : List TI) : ldL (N + 1) l = ldL N l ++ [(cnC l (N : Int) : Int)] := by
  unfold ldL
  rw [List.range_succ, List.map_append]
  rfl
theorem rloads_ok (n : Int) {p : Option Addr} {l : List TI} {c : Nat} (h : Cells w p (l.flatMap recIIU)) (hl : l.length ≤ 1000) :
    Calls Tryd.prog 11 #[.int .i64 n, .slice p l.length c] w fun e w' => ∃ p' c', e = .returned (.slice p' (loadsE n l).length c') ∧ Loc w w' 3 p' c' (loadsE n l) := by
  refine u11 ?_
  rw [t11]
  unfold loadsE
  refine ⟨fun g1 => ⟨fun g2 => ?_, fun g2 => ?_⟩, fun g1 => ?_⟩
  · rw [if_neg (by simp at g2; omega)]
    exact ⟨none, 0, rfl, Loc.nil (Upd.refl _ _) _⟩
  · have g1 := of_decide_eq_false g1
    have g2 := of_decide_eq_false g2
    rw [if_pos (by omega)]
    obtain ⟨N, rfl⟩ : ∃ N : Nat, n = N := ⟨n.toNat, by omega⟩
    rw [Int.toNat_natCast]
    refine ⟨WP_loop okProg (M := M11) (σ := Nat × Option Addr × Nat) (fun s => e11_1 (N : Int) p l.length c s.2.1 (ldL s.1 l).length s.2.2 (s.1 : Int)) (fun s w' => s.1 ≤ N ∧ Loc w w' 3 s.2.1 s.2.2 (ldL s.1 l)) (fun s _ => N - s.1) (0, none, 0) ⟨rfl, rfl, rfl, rfl, trivial⟩ ⟨by omega, Loc.nil (Upd.refl _ _) _⟩ ?_⟩
    rintro ⟨j, p1, c1⟩ w1 ⟨j1, hL⟩
    simp only at j1 hL ⊢
    rw [t11_1]
    refine ⟨fun g => ?_, fun g => ?_⟩
    · have hj : j < N := by simp at g; omega
      refine ⟨(rload_ok (h.no hL.U) hl _).mono ?_⟩
      rintro e w2 ⟨rfl, rfl⟩
      refine ⟨_, rfl, ⟨fun w3 hN => ?_⟩⟩
      obtain ⟨p', c', w4, hr, hL'⟩ := hL.push elI (by rw [ldL_len]; omega) hN 23
      rw [← ldL_succ] at hr hL'
      exact ⟨p', _, c', w4, hr, (j + 1, p', c'), ⟨rfl, rfl, rfl, by rw [w64 (by omega)]; rfl, trivial⟩, ⟨by simp only; omega, hL'⟩, by simp only; omega⟩
    · have : j = N := by simp at g; omega
      subst this
      exact ⟨p1, c1, rfl, hL⟩
  · rw [if_neg (by simp at g1; omega)]
    exact ⟨none, 0, rfl, Loc.nil (Upd.refl _ _) _⟩
def lowE : List Int → Int
  | [] => 0
  | a :: t => mnL a t
def highE : List Int → Int
  | [] => 0
  | a :: t => mxL a t
theorem lowE_snoc (k : List Int) (v : Int) : lowE (k ++ [v]) = if k = [] then v else if v < lowE k then v else lowE k := by
  cases k with
  | nil => rfl
  | cons a t => rw [if_neg (by simp)]; exact mnL_snoc a t v
theorem highE_snoc (k : List Int) (v : Int) : highE (k ++ [v]) = if k = [] then v else if v > highE k then v else highE k := by
  cases k with
  | nil => rfl
  | cons a t => rw [if_neg (by simp)]; exact mxL_snoc a t v
theorem gapW_hl (k : List Int) : IntKind.wrap .i64 (highE k - lowE k) = gapW k := by
  cases k with
  | nil => rfl
  | cons a t => rfl
theorem rgap_ok {p : Option Addr} {l : List Int} {c : Nat} (h : Cells w p (l.map (Value.int .i64))) (hl : l.length ≤ 1000) (m : BV) :
    Calls Tryd.prog 13 #[.slice p l.length c, .int .u64 (mi m)] w fun e w' => e = .returned (.int .i64 (gapW (ldOfN l m l.length))) ∧ w' = w := by
  refine u13 ?_
  rw [t13]
  refine ⟨WP_loop okProg (M := M13) (σ := Nat) (fun j => e13_1 p l.length c (mi m) (decide (ldOfN l m j ≠ [])) (lowE (ldOfN l m j)) (highE (ldOfN l m j)) (j : Int)) (fun j w' => j ≤ l.length ∧ j ≤ 64 ∧ w' = w) (fun j _ => l.length - j) 0 ⟨rfl, rfl, rfl, rfl, rfl, rfl, trivial⟩ ⟨by omega, by omega, rfl⟩ ?_⟩
  rintro j w1 ⟨j1, j2, rfl⟩
  rw [t13_1]
  refine ⟨fun g => ⟨fun g2 => ⟨(rHas_ok m _ w1).mono ?_⟩, fun g2 => ⟨?_, rfl⟩⟩, fun g => ⟨?_, rfl⟩⟩
  · have hj : j < l.length := by simpa using g
    have g2 := of_decide_eq_true g2
    rintro e w2 ⟨rfl, rfl⟩
    have hs1 := ldOfN_succ l m j
    have e0 : l.getD j 0 = l[j] := by simp [hj]
    rw [e0] at hs1
    obtain ⟨a, ha, hc⟩ := h.at1 hj
    refine ⟨_, rfl, fun g3 => ?_, fun g3 => ?_⟩
    · rw [if_neg (by simpa using g3)] at hs1
      exact ⟨j + 1, ⟨rfl, rfl, by rw [hs1]; rfl, by rw [hs1]; rfl, by rw [hs1]; rfl, by rw [w64 (x := (j : Int) + 1) (by omega)]; rfl, trivial⟩, ⟨by omega, by omega, rfl⟩, by omega⟩
    · rw [if_pos (by simpa using g3)] at hs1
      have hlo := lowE_snoc (ldOfN l m j) l[j]
      have hhi := highE_snoc (ldOfN l m j) l[j]
      have hne : ldOfN l m (j + 1) ≠ [] := by rw [hs1]; simp
      rw [← hs1] at hlo hhi
      have nx : ∀ v : Int, lowE (ldOfN l m (j + 1)) = v → CutD Tryd.prog M13 c13_3 (e13_3 p l.length c (mi m) (decide (ldOfN l m j ≠ [])) v (highE (ldOfN l m j)) (j : Int)) w2 (k13_3 (fun E w' => ∃ s : Nat, CoversL E (e13_1 p l.length c (mi m) (decide (ldOfN l m s ≠ [])) (lowE (ldOfN l m s)) (highE (ldOfN l m s)) (s : Int)) ∧ (s ≤ l.length ∧ s ≤ 64 ∧ w' = w2) ∧ l.length - s < l.length - j) fun e w' => e = .returned (.int .i64 (gapW (ldOfN l m l.length))) ∧ w' = w2) := by
        intro v hv
        refine CutD.mk ?_
        rw [t13_3]
        have fin : ∀ u : Int, highE (ldOfN l m (j + 1)) = u → ∃ s : Nat, CoversL [(0, SV.v (.slice p l.length c)), (1, SV.v (.int .u64 (mi m))), (5, SV.b true), (6, SV.v (.int .i64 v)), (7, SV.v (.int .i64 u)), (8, SV.v (.int .i64 (IntKind.wrap .i64 ((j : Int) + 1))))] (e13_1 p l.length c (mi m) (decide (ldOfN l m s ≠ [])) (lowE (ldOfN l m s)) (highE (ldOfN l m s)) (s : Int)) ∧ (s ≤ l.length ∧ s ≤ 64 ∧ w2 = w2) ∧ l.length - s < l.length - j :=
          fun u hu => ⟨j + 1, ⟨rfl, rfl, by rw [decide_eq_true hne]; rfl, by rw [hv]; rfl, by rw [hu]; rfl, by rw [w64 (x := (j : Int) + 1) (by omega)]; rfl, trivial⟩, ⟨by omega, by omega, rfl⟩, by omega⟩
        refine ⟨fun g4 => ⟨⟨by omega, by omega⟩, a, ha, _, hc, fun g5 => ⟨⟨by omega, by omega⟩, a, ha, _, hc, fin _ ?_⟩, fun g5 => fin _ ?_⟩, fun g4 => ⟨⟨by omega, by omega⟩, a, ha, _, hc, fin _ ?_⟩⟩
        · rw [hhi, if_neg (by simpa using g4), if_pos (of_decide_eq_true g5)]
        · rw [hhi, if_neg (by simpa using g4), if_neg (of_decide_eq_false g5)]
        · rw [hhi, if_pos (by simpa using g4)]
      refine ⟨fun g4 => ⟨⟨by omega, by omega⟩, a, ha, _, hc, fun g5 => ⟨⟨by omega, by omega⟩, a, ha, _, hc, nx _ ?_⟩, fun g5 => nx _ ?_⟩, fun g4 => ⟨⟨by omega, by omega⟩, a, ha, _, hc, nx _ ?_⟩⟩
      · rw [hlo, if_neg (by simpa using g4), if_pos (of_decide_eq_true g5)]
      · rw [hlo, if_neg (by simpa using g4), if_neg (of_decide_eq_false g5)]
      · rw [hlo, if_pos (by simpa using g4)]
  · have g2 := of_decide_eq_false g2
    have : j = 64 := by omega
    subst this
    rw [gapW_hl, ldOfN_64 l m l.length j1]
  · have : j = l.length := by simp at g; omega
    subst this
    rw [gapW_hl]
theorem rweight_ok {p : Option Addr} {l : List Int} {c : Nat} (h : Cells w p (l.map (Value.int .i64))) (hl : l.length ≤ 1000) :
    Calls Tryd.prog 15 #[.slice p l.length c] w fun e w' => e = .returned (.int .i64 (wtN l l.length)) ∧ Upd no w w' := by
  refine u15 ?_
  rw [t15]
  refine ⟨WP_loop okProg (M := M15) (σ := Nat) (fun j => e15_1 p l.length c (wtN l j) (j : Int)) (fun j w' => j ≤ l.length ∧ Upd no w w') (fun j _ => l.length - j) 0 ⟨rfl, rfl, rfl, trivial⟩ ⟨by omega, Upd.refl _ _⟩ ?_⟩
  rintro j w1 ⟨j1, hU⟩
  rw [t15_1]
  refine ⟨fun g => ?_, fun g => ?_⟩
  · have hj : j < l.length := by simpa using g
    obtain ⟨a, ha, hc⟩ := (h.no hU).at1 hj
    have e0 : l.getD j 0 = l[j] := by simp [hj]
    have e1 : wtN l (j + 1) = if 0 ≤ l[j] ∧ l[j] ≤ 1048576 then IntKind.wrap .i64 (wtN l j + IntKind.wrap .i64 (l[j] * l[j])) else wtN l j := by rw [wtN, e0]
    refine ⟨⟨by omega, by omega⟩, a, ha, _, hc, fun g1 => ⟨⟨by omega, by omega⟩, a, ha, _, hc, fun g2 => ?_, fun g2 => ?_⟩, fun g1 => ?_⟩
    · have g1 := of_decide_eq_true g1
      have g2 := of_decide_eq_true g2
      rw [if_pos ⟨g1, g2⟩] at e1
      intro w2 q1 q2 q3 q4
      have hU2 := hU.and (Upd.same no q1 q2 q3 q4)
      obtain ⟨a, ha, hc⟩ := (h.no hU2).at1 hj
      exact ⟨⟨by omega, by omega⟩, a, ha, _, hc, ⟨by omega, by omega⟩, a, ha, _, hc, j + 1, ⟨rfl, by rw [e1]; rfl, by rw [w64 (x := (j : Int) + 1) (by omega)]; rfl, trivial⟩, ⟨by omega, hU2⟩, by omega⟩
    · have g2 := of_decide_eq_false g2
      rw [if_neg (fun h => g2 h.2)] at e1
      exact ⟨j + 1, ⟨rfl, by rw [e1]; rfl, by rw [w64 (x := (j : Int) + 1) (by omega)]; rfl, trivial⟩, ⟨by omega, hU⟩, by omega⟩
    · have g1 := of_decide_eq_false g1
      rw [if_neg (fun h => g1 h.1)] at e1
      exact ⟨j + 1, ⟨rfl, by rw [e1]; rfl, by rw [w64 (x := (j : Int) + 1) (by omega)]; rfl, trivial⟩, ⟨by omega, hU⟩, by omega⟩
  · have : j = l.length := by simp at g; omega
    subst this
    exact ⟨rfl, hU⟩
theorem rwrong_ok (m : BV) {p : Option Addr} {l : List TI} {c : Nat} (h : Cells w p (l.flatMap recIIU)) (hl : l.length ≤ 1000) :
    Calls Tryd.prog 40 #[.int .u64 (mi m), .slice p l.length c] w fun e w' => e = .returned (.bool (!planB m l)) ∧ Upd no w w' := by
  refine u40 ?_
  rw [t40]
  refine ⟨WP_loop okProg (M := M40) (σ := Nat) (fun i => e40_1 (mi m) p l.length c (i : Int)) (fun i w' => i ≤ l.length ∧ ((l.take i).map (·.1)).Nodup ∧ (∀ x ∈ l.take i, hs m x.2.1 = true) ∧ Upd no w w') (fun i _ => l.length - i) 0 ⟨rfl, rfl, rfl, trivial⟩ ⟨by omega, by simp, by simp, Upd.refl _ _⟩ ?_⟩
  rintro i w1 ⟨i1, i2, i3, hU⟩
  rw [t40_1]
  refine ⟨fun g => ?_, fun g => ?_⟩
  · have hi : i < l.length := by simpa using g
    have e1 : l.take (i + 1) = l.take i ++ [l[i]] := List.take_succ_eq_append_getElem hi
    obtain ⟨a, ha, hc⟩ := (h.no hU).atk recIIU_len (by decide) hi
    refine ⟨⟨by omega, by omega⟩, a, ha, _, hc 1 _ rfl, ⟨(rHas_ok m _ w1).mono ?_⟩⟩
    rintro e w2 ⟨rfl, rfl⟩
    refine ⟨_, rfl, fun g1 => ?_, fun g1 => ?_⟩
    · have g1 : hs m l[i].2.1 = false := by simpa using g1
      rw [planB_no hi (.inl g1)]
      exact ⟨rfl, hU⟩
    · have g1 : hs m l[i].2.1 = true := by simpa using g1
      refine ⟨WP_loop okProg (M := M40) (σ := Nat) (fun k => e40_3 (mi m) p l.length c (i : Int) (k : Int)) (fun k w' => k ≤ i ∧ (∀ j (hj : j < l.length), j < k → l[j].1 ≠ l[i].1) ∧ Upd no w w') (fun k _ => i - k) 0 ⟨rfl, rfl, rfl, rfl, trivial⟩ ⟨by omega, fun j _ h => by omega, hU⟩ ?_⟩
      rintro k w3 ⟨k1, k2, hU3⟩
      rw [t40_3]
      refine ⟨fun g2 => ?_, fun g2 => ?_⟩
      · have hk : k < i := by simp at g2; omega
        intro w4 q1 q2 q3 q4
        have hU4 := hU3.and (Upd.same no q1 q2 q3 q4)
        obtain ⟨a, ha, hc⟩ := (h.no hU4).atk recIIU_len (by decide) (i := k) (by omega)
        obtain ⟨a', ha', hc'⟩ := (h.no hU4).atk recIIU_len (by decide) hi
        refine ⟨⟨by omega, by omega⟩, a, ha, _, hc 0 _ rfl, ⟨by omega, by omega⟩, a', ha', _, hc' 0 _ rfl, fun g3 => ?_, fun g3 => ?_⟩
        · have g3 : l[k].1 = l[i].1 := by simpa using g3
          rw [planB_no hi (.inr (List.mem_map.2 ⟨l[k], List.mem_iff_getElem.2 ⟨k, by simp; omega, by simp⟩, g3⟩))]
          exact ⟨rfl, hU4⟩
        · have g3 : l[k].1 ≠ l[i].1 := by simpa using g3
          refine ⟨k + 1, ⟨rfl, rfl, rfl, by rw [w64 (by omega)]; rfl, trivial⟩, ⟨by omega, fun j hj hjk => ?_, hU4⟩, by omega⟩
          by_cases e : j = k
          · subst e; exact g3
          · exact k2 j hj (by omega)
      · have : k = i := by simp at g2; omega
        subst this
        refine ⟨k + 1, ⟨rfl, rfl, by rw [w64 (by omega)]; rfl, trivial⟩, ⟨by omega, ?_, ?_, hU3⟩, by omega⟩
        · rw [e1, List.map_append, List.nodup_append]
          refine ⟨i2, by simp, fun a ha b hb e => ?_⟩
          simp at hb
          subst hb
          subst e
          obtain ⟨x, hx, hxe⟩ := List.mem_map.1 ha
          obtain ⟨j, hj, rfl⟩ := List.getElem_of_mem hx
          simp at hj
          rw [List.getElem_take] at hxe
          exact k2 j (by omega) (by omega) hxe
        · rw [e1]
          intro x hx
          rcases List.mem_append.1 hx with hx | hx
          · exact i3 x hx
          · simp at hx; rw [hx]; exact g1
  · have : i = l.length := by simp at g; omega
    subst this
    rw [List.take_length] at i2 i3
    have : planB m l = true := by
      unfold planB
      simp only [Bool.and_eq_true, decide_eq_true_eq, List.all_eq_true]
      exact ⟨i2, i3⟩
    rw [this]
    exact ⟨rfl, hU⟩
theorem rbest_ok (m : BV) (most : Bool) {p : Option Addr} {l : List TI} {c : Nat} (h : Cells w p (l.flatMap recIIU)) (hl : l.length ≤ 1000) :
    Calls Tryd.prog 41 #[.int .u64 (mi m), .slice p l.length c, .bool most] w fun e w' => e = .returned (.int .i64 (bestOf (gtOf most) m l)) ∧ w' = w := by
  refine u41 ?_
  rw [t41]
  refine ⟨WP_loop okProg (M := M41) (σ := Nat) (fun j => e41_1 (mi m) p l.length c most ((bestF (fun c => (cnC l c : Int)) (gtOf most) (upto (hs m) j)).getD (-1)) (j : Int)) (fun j w' => j ≤ 64 ∧ w' = w) (fun j _ => 64 - j) 0 ⟨rfl, rfl, rfl, rfl, rfl, trivial⟩ ⟨by omega, rfl⟩ ?_⟩
  rintro j w1 ⟨j1, rfl⟩
  rw [t41_1]
  have hpos : ∀ a, bestF (fun c => (cnC l c : Int)) (gtOf most) (upto (hs m) j) = some a → 0 ≤ a := fun a ha => by
    rcases bestF_in (fun c => (cnC l c : Int)) (gtOf most) (upto (hs m) j) with ⟨k1, _⟩ | ⟨a', k1, k2⟩
    · rw [k1] at ha; cases ha
    · rw [k2] at ha
      have := Option.some.inj ha
      subst this
      exact (mem_upto.1 k1).1
  refine ⟨fun g => ?_, fun g => ?_⟩
  · have hj : j < 64 := by simp at g; omega
    refine ⟨(rHas_ok m _ w1).mono ?_⟩
    rintro e w2 ⟨rfl, rfl⟩
    have hup := upto_succ (hs m) j
    have next : ∀ v, (bestF (fun c => (cnC l c : Int)) (gtOf most) (upto (hs m) (j + 1))).getD (-1) = v → ∃ s : Nat, CoversL [(0, SV.v (.int .u64 (mi m))), (1, SV.v (.slice p l.length c)), (2, SV.v (.bool most)), (7, SV.v (.int .i64 v)), (8, SV.v (.int .i64 (IntKind.wrap .i64 ((j : Int) + 1))))] (e41_1 (mi m) p l.length c most ((bestF (fun c => (cnC l c : Int)) (gtOf most) (upto (hs m) s)).getD (-1)) (s : Int)) ∧ (s ≤ 64 ∧ w2 = w2) ∧ 64 - s < 64 - j :=
      fun v hv => ⟨j + 1, ⟨rfl, rfl, rfl, by rw [hv]; rfl, by rw [w64 (by omega)]; rfl, trivial⟩, ⟨by omega, rfl⟩, by omega⟩
    refine ⟨_, rfl, fun g1 => ?_, fun g1 => next _ (by rw [hup, if_neg (by simp [g1])])⟩
    rw [if_pos g1] at hup
    rw [hup, bestF_snoc] at next
    refine ⟨fun g2 => ?_, fun g2 => ?_⟩
    · cases hbf : bestF (fun c => (cnC l c : Int)) (gtOf most) (upto (hs m) j) with
      | none => rw [hbf] at g2; simp at g2
      | some a =>
        rw [hbf] at next
        dsimp only [stepB, Option.getD_some] at next ⊢
        have two : ∀ {R : Int → Int → World → Prop}, R (cnC l j) (cnC l a) w2 → Call Tryd.prog 27 [.slice p l.length c, .int .i64 j] w2 fun e w'' => ∃ n, e = .returned (.int .i64 n) ∧ Call Tryd.prog 27 [.slice p l.length c, .int .i64 a] w'' fun e w'' => ∃ n_1, e = .returned (.int .i64 n_1) ∧ R n n_1 w'' := by
          intro R hR
          refine ⟨(rload_ok h hl _).mono ?_⟩
          rintro e w3 ⟨rfl, rfl⟩
          refine ⟨_, rfl, ⟨(rload_ok h hl _).mono ?_⟩⟩
          rintro e w4 ⟨rfl, rfl⟩
          exact ⟨_, rfl, hR⟩
        cases most with
        | true =>
          refine ⟨fun _ => two ⟨fun g3 => ⟨fun g4 => by simp at g4, fun _ => next _ ?_⟩, fun g3 => next _ ?_⟩, fun g3 => by simp at g3⟩
          · rw [if_neg (by simp [gtOf, gtB] at g3 ⊢; omega)]; rfl
          · rw [if_pos (by simp [gtOf, gtB] at g3 ⊢; omega)]; rfl
        | false =>
          refine ⟨fun g3 => by simp at g3, fun _ => ⟨fun _ => two ⟨fun g3 => next _ ?_, fun g3 => next _ ?_⟩, fun g3 => by simp at g3⟩⟩
          · rw [if_pos (by simp [gtOf, ltB] at g3 ⊢; omega)]; rfl
          · rw [if_neg (by simp [gtOf, ltB] at g3 ⊢; omega)]; rfl
    · cases hbf : bestF (fun c => (cnC l c : Int)) (gtOf most) (upto (hs m) j) with
      | none => rw [hbf] at next; exact next _ rfl
      | some a =>
        rw [hbf] at g2
        have := hpos a hbf
        have := of_decide_eq_true g2
        simp only [Option.getD_some] at this
        omega
  · have : j = 64 := by simp at g; omega
    subst this
    exact ⟨rfl, rfl⟩
theorem rplan_ok (n : Int) (m : BV) {p : Option Addr} {l : List TI} {c : Nat} (h : Cells w p (l.flatMap recIIU)) (hl : l.length ≤ 1000) :
    Calls Tryd.prog 17 #[.int .i64 n, .int .u64 (mi m), .slice p l.length c] w fun e w' =>
      (mayE n m l ≠ 0 ∧ e = .returned (.tuple #[.slice none 0 0, .int .i64 (mayE n m l)]) ∧ Upd no w w') ∨
      (mayE n m l = 0 ∧ ∃ k s p' c', runP m l k = some s ∧ stepP m s = none ∧ e = .returned (.tuple #[.slice p' s.1.length c', .int .i64 0]) ∧ LocR recIII 3 w w' 74 p' c' s.1) := by
  refine u17 ?_
  rw [t17]
  have bad : ∀ (k : Int) w', mayE n m l = k → k ≠ 0 → Upd no w w' → (mayE n m l ≠ 0 ∧ Ending.returned (.tuple #[.slice none 0 0, .int .i64 k]) = .returned (.tuple #[.slice none 0 0, .int .i64 (mayE n m l)]) ∧ Upd no w w') ∨ (mayE n m l = 0 ∧ ∃ k' s p' c', runP m l k' = some s ∧ stepP m s = none ∧ Ending.returned (.tuple #[.slice none 0 0, .int .i64 k]) = .returned (.tuple #[.slice p' s.1.length c', .int .i64 0]) ∧ LocR recIII 3 w w' 74 p' c' s.1) :=
    fun k w' hk h0 hU => .inl ⟨by rw [hk]; exact h0, by rw [hk], hU⟩
  refine ⟨fun g1 => ⟨fun g2 => ⟨fun g3 => ⟨(rUpto_ok n w).mono ?_⟩, fun g3 => bad 2 w ?_ (by decide) (Upd.refl _ _)⟩, fun g2 => bad 2 w ?_ (by decide) (Upd.refl _ _)⟩, fun g1 => bad 2 w ?_ (by decide) (Upd.refl _ _)⟩
  rotate_left
  · have hm : m = 0 := by rw [mi_beq0] at g3; simpa using g3
    rw [mayE, if_pos (.inr (.inl hm))]
  · rw [mayE, if_pos (.inl (by simp at g2; omega))]
  · rw [mayE, if_pos (.inl (by simp at g1; omega))]
  have hn : 1 ≤ n ∧ n ≤ 64 := by simp at g1 g2; omega
  have hm : m ≠ 0 := by rw [mi_beq0] at g3; simpa using g3
  rintro e w1 ⟨rfl, rfl⟩
  refine ⟨_, rfl, ⟨(rNot_ok m (upM n) w1).mono ?_⟩⟩
  rintro e w2 ⟨rfl, hU2⟩
  refine ⟨_, rfl, fun g4 => bad 2 w2 ?_ (by decide) hU2, fun g4 => ⟨fun g5 => bad 15 w2 ?_ (by decide) hU2, fun g5 => ⟨(rwrong_ok m (h.no hU2) hl).mono ?_⟩⟩⟩
  · rw [mi_bne0] at g4
    rw [mayE, if_pos (.inr (.inr (by simpa using g4)))]
  · rw [mi_bne0] at g4
    have g4 : (m &&& ~~~ upM n) = 0 := by simpa using g4
    rw [mayE, if_neg (fun h => by rcases h with h | h | h; exact h hn; exact hm h; exact h g4), if_pos (by simp at g5; omega)]
  have g4 : (m &&& ~~~ upM n) = 0 := by rw [mi_bne0] at g4; simpa using g4
  have hmay : mayE n m l = if planB m l then 0 else 2 := by
    rw [mayE, if_neg (fun h => by rcases h with h | h | h; exact h hn; exact hm h; exact h g4), if_neg (by simp at g5; omega)]
  rintro e w3 ⟨rfl, hU3⟩
  replace hU3 := hU2.and hU3
  refine ⟨_, rfl, fun g6 => bad 2 w3 ?_ (by decide) hU3, fun g6 => ?_⟩
  · rw [hmay, if_neg (by simpa using g6)]
  have g : mayE n m l = 0 := by rw [hmay, if_pos (by simpa using g6)]
  clear bad
  obtain ⟨_, _, _, hP⟩ := mayE_ok g
  obtain ⟨pl, cl, w4, hr, hL⟩ := (LocR.nil (f := recIIU) (sz := 3) (Upd.refl no w3) 54).moreQ elTr recIIU_len recIIU_one (h.no hU3) (d := c) (by simp; omega) (by simp; omega) 22
  rw [List.nil_append] at hr hL
  have hM : Mine w1 w4 (LsR recIIU 3 54) (pl, cl, l) := Mine.new (B := LsR recIIU 3 54) (t := (pl, cl, l)) (G := fpS pl) hU3 hL.U ⟨fun _ => Iff.rfl, hL.S⟩ hL.F
  clear hL
  replace hM : Mine w1 w4 (Star (LsR recIIU 3 54) (LsR recIII 3 74)) ((pl, cl, l), (none, 0, [])) := hM.add (Upd.refl _ _) (LsR.nil _ _ _ _) (fun _ h => h.elim)
  refine ⟨pl, _, cl, w4, hr, ⟨WP_loop okProg (M := M17) (σ := Nat × PS × Option Addr × Nat) (fun x => e17_1 (mi m) pl x.2.1.2.length cl x.2.2.1 x.2.1.1.length x.2.2.2 (x.1 : Int))
    (fun x w' => runP m l x.1 = some x.2.1 ∧ Mine w1 w' (Star (LsR recIIU 3 54) (LsR recIII 3 74)) ((pl, cl, x.2.1.2), (x.2.2.1, x.2.2.2, x.2.1.1))) (fun x _ => sqN 64 x.2.1.2) (0, ([], l), none, 0) ⟨rfl, rfl, rfl, rfl, trivial⟩ ⟨rfl, hM⟩ ?_⟩⟩
  clear hM hr
  rintro ⟨k, s, po, co⟩ w5 ⟨hR, hM⟩
  simp only at hR hM ⊢
  have hI := runP_I hm hP hR
  have hsl : s.2.length ≤ 64 := hI.plan.len
  have hk5 : 2 * k ≤ 4096 := by
    have h1 := hI.wt
    have h2 := sqN_le hP.len 64
    omega
  rw [t17_1]
  refine ⟨fun _ => ?_, fun g7 => by simp at g7; omega⟩
  have hC := LsR.cells hM.left.choose_spec.1
  refine ⟨(rbest_ok m true hC (by omega)).mono ?_⟩
  rintro e w6 ⟨rfl, rfl⟩
  refine ⟨_, rfl, ⟨(rbest_ok m false hC (by omega)).mono ?_⟩⟩
  rintro e w6 ⟨rfl, rfl⟩
  refine ⟨_, rfl, ⟨(rload_ok hC (by omega) _).mono ?_⟩⟩
  rintro e w6 ⟨rfl, rfl⟩
  refine ⟨_, rfl, ⟨(rload_ok hC (by omega) _).mono ?_⟩⟩
  rintro e w6 ⟨rfl, rfl⟩
  show ∃ n_3, _ = _ ∧ _
  have fin : ∀ w', Mine w1 w' (Star (LsR recIIU 3 54) (LsR recIII 3 74)) ((pl, cl, s.2), (po, co, s.1)) → stepP m s = none → (mayE n m l ≠ 0 ∧ Ending.returned (.tuple #[.slice po s.1.length co, .int .i64 0]) = .returned (.tuple #[.slice none 0 0, .int .i64 (mayE n m l)]) ∧ Upd no w1 w') ∨
      (mayE n m l = 0 ∧ ∃ k s' p' c', runP m l k = some s' ∧ stepP m s' = none ∧ Ending.returned (.tuple #[.slice po s.1.length co, .int .i64 0]) = .returned (.tuple #[.slice p' s'.1.length c', .int .i64 0]) ∧ LocR recIII 3 w1 w' 74 p' c' s'.1) := by
    intro w' hM hst
    obtain ⟨F, ⟨F1, F2, _, h2, h3, _⟩, hU, hF⟩ := hM
    exact .inr ⟨g, k, s, po, co, hR, hst, rfl, hU, h2.2, fun i hi => hF i ((h3 i).2 (.inr ((h2.1 i).2 hi)))⟩
  obtain ⟨a1, _⟩ := bestOf_in (gt := gtB) hm s.2
  obtain ⟨b1, _⟩ := bestOf_in (gt := ltB) hm s.2
  have hlo := stepP_lo (m := m) (s := s)
  have hno := stepP_no (m := m) (s := s)
  have hcs := step_cases hm s
  have et : bestOf (gtOf true) m s.2 = bestOf gtB m s.2 := rfl
  have ef : bestOf (gtOf false) m s.2 = bestOf ltB m s.2 := rfl
  rw [et, ef]
  obtain ⟨A, hA, _⟩ := hs_nat a1
  obtain ⟨B, hB, _⟩ := hs_nat b1
  rw [hA, hB] at hlo hno hcs ⊢
  have hcA := cnC_le s.2 (A : Int)
  have hcB := cnC_le s.2 (B : Int)
  refine ⟨_, rfl, ?_⟩
  rw [w64 (x := (cnC s.2 (A : Int) : Int) - (cnC s.2 (B : Int) : Int)) (by omega)]
  refine ⟨fun g7 => fin _ hM (hlo (of_decide_eq_true g7)), fun g7 => ?_⟩
  have g7 := of_decide_eq_false g7
  refine ⟨WP_loop okProg (M := M17) (σ := Nat) (fun i => e17_4 (mi m) pl s.2.length cl po s.1.length co (k : Int) (A : Int) (B : Int) (lastN s.2 (A : Int) (B : Int) i) (i : Int)) (fun i w' => i ≤ s.2.length ∧ w' = w6) (fun i _ => s.2.length - i) 0 ⟨rfl, rfl, rfl, rfl, rfl, rfl, rfl, rfl, trivial⟩ ⟨by omega, rfl⟩ ?_⟩
  rintro i w7 ⟨i1, rfl⟩
  rw [t17_4]
  refine ⟨fun g8 => ?_, fun g8 => ?_⟩
  · have hi : i < s.2.length := by simp at g8; omega
    obtain ⟨a, ha, hc⟩ := hC.atk recIIU_len (by decide) hi
    have e0 : s.2.getD i (0, 0, 0) = s.2[i] := by simp [hi]
    have e1 : lastN s.2 (A : Int) (B : Int) (i + 1) = if satI (A : Int) (B : Int) s.2[i] then (i : Int) else lastN s.2 (A : Int) (B : Int) i := by rw [lastN, e0]
    have nx : ∀ v, lastN s.2 (A : Int) (B : Int) (i + 1) = v → ∃ j : Nat, CoversL [(1, SV.v (.int .u64 (mi m))), (8, SV.v (.slice pl s.2.length cl)), (9, SV.v (.slice po s.1.length co)), (10, SV.v (.int .i64 k)), (11, SV.v (.int .i64 A)), (12, SV.v (.int .i64 B)), (13, SV.v (.int .i64 v)), (14, SV.v (.int .i64 (IntKind.wrap .i64 ((i : Int) + 1))))] (e17_4 (mi m) pl s.2.length cl po s.1.length co (k : Int) (A : Int) (B : Int) (lastN s.2 (A : Int) (B : Int) j) (j : Int)) ∧ (j ≤ s.2.length ∧ w7 = w7) ∧ s.2.length - j < s.2.length - i :=
      fun v hv => ⟨i + 1, ⟨rfl, rfl, rfl, rfl, rfl, rfl, by rw [hv]; rfl, by rw [w64 (by omega)]; rfl, trivial⟩, ⟨by omega, rfl⟩, by omega⟩
    refine ⟨⟨by omega, by omega⟩, a, ha, _, hc 1 _ rfl, fun g9 => ⟨⟨by omega, by omega⟩, a, ha, _, hc 2 _ rfl, ⟨(rHas_ok _ _ w7).mono ?_⟩⟩, fun g9 => nx _ ?_⟩
    · rintro e w8 ⟨rfl, rfl⟩
      refine ⟨_, rfl, fun g10 => nx _ ?_, fun g10 => nx _ ?_⟩
      · rw [e1, satI, g9, g10]; rfl
      · rw [e1, satI, g9, g10]; rfl
    · rw [e1, satI, g9]; rfl
  · have : i = s.2.length := by simp at g8; omega
    subst this
    refine CutD.mk ?_
    rw [t17_3]
    refine ⟨fun g9 => fin _ hM (hno (of_decide_eq_true g9)), fun g9 => ?_⟩
    have g9 := of_decide_eq_false g9
    rcases hcs with ⟨_, hk | hk⟩ | ⟨i, a, b, hS, hk⟩
    · exact absurd hk g7
    · rw [hk] at g9; omega
    · have ea : A = a := by have := hS.ea; omega
      have eb : B = b := by have := hS.eb; omega
      subst ea
      subst eb
      have hi := hS.lt
      rw [hS.el]
      obtain ⟨al, hal, hcl2⟩ := hC.atk recIIU_len (by decide) hi
      simp only [Int.toNat_natCast]
      refine ⟨⟨by omega, by omega⟩, al, hal, _, hcl2 0 _ rfl, ⟨fun w9 hN => ?_⟩⟩
      obtain ⟨_, hA3, hT3⟩ := hM.right
      have hk64 : s.1.length ≤ 5000 := by rw [hI.len]; omega
      obtain ⟨po', co', w10, hr, hT⟩ := LsR.push elMr recIII_len recIII_one hA3 (by omega) (by omega) (x := (s.2[i].1, (A : Int), (B : Int))) rfl hN 36
      replace hM := hT3 _ _ hT
      clear hA3 hT3 hT hN
      refine ⟨po', _, co', w10, hr, ⟨by omega, by omega⟩, ?_⟩
      obtain ⟨_, hA1, hT1⟩ := hM.left
      refine LsR.wr recIIU_len hA1 hi (j := 1) (y := (s.2[i].1, (B : Int), s.2[i].2.2)) (by omega) rfl fun w11 hT => ?_
      replace hM := hT1 _ _ hT
      have hw2 := sqN_move (n := 64) hi (a := A) (b := B) (by omega) (by omega) hS.cpu hS.dif s.2[i].1 s.2[i].2.2
      refine ⟨(k + 1, (s.1 ++ [(s.2[i].1, (A : Int), (B : Int))], s.2.set i (s.2[i].1, (B : Int), s.2[i].2.2)), po', co'), ⟨rfl, by simp only [List.length_set]; rfl, rfl, by rw [w64 (by omega)]; rfl, trivial⟩, ⟨?_, hM⟩, by dsimp only; omega⟩
      show (runP m l k).bind (stepP m) = _
      rw [hR]
      exact hk
/-- The first one of the last ones that is meant. -/
def idF (mv : MV) (l : List TI) : Nat → Int
  | 0 => -1
  | n + 1 => if moP mv (l.getD (l.length - (n + 1)) (0, 0, 0)) then ((l.length - (n + 1) : Nat) : Int) else idF mv l n
theorem idF_spec {mv : MV} {l : List TI} : ∀ {n : Nat} (hn : n ≤ l.length), (idF mv l n = -1 ∧ ∀ (i : Nat) (hi : i < l.length), l.length - n ≤ i → moP mv l[i] = false) ∨ ∃ (i : Nat) (hi : i < l.length), l.length - n ≤ i ∧ idF mv l n = i ∧ moP mv l[i] = true ∧ ∀ (j : Nat) (hj : j < l.length), l.length - n ≤ j → j < i → moP mv l[j] = false
  | 0, _ => .inl ⟨rfl, fun i hi h => by omega⟩
  | n + 1, hn => by
    have e : l.getD (l.length - (n + 1)) (0, 0, 0) = l[l.length - (n + 1)]'(by omega) := by simp [show l.length - (n + 1) < l.length by omega]
    unfold idF
    rw [e]
    cases hm : moP mv (l[l.length - (n + 1)]'(by omega)) with
    | true =>
      rw [if_pos rfl]
      exact .inr ⟨_, by omega, Nat.le_refl _, rfl, hm, fun j hj h1 h2 => by omega⟩
    | false =>
      rw [if_neg (by simp)]
      rcases idF_spec (mv := mv) (l := l) (n := n) (by omega) with ⟨h1, h2⟩ | ⟨i, hi, h0, h1, h2, h3⟩
      · refine .inl ⟨h1, fun i hi h => ?_⟩
        by_cases e : i = l.length - (n + 1)
        · subst e; exact hm
        · exact h2 i hi (by omega)
      · refine .inr ⟨i, hi, by omega, h1, h2, fun j hj k1 k2 => ?_⟩
        by_cases e : j = l.length - (n + 1)
        · subst e; exact hm
        · exact h3 j hj (by omega) k2
theorem idF_all (mv : MV) (l : List TI) : idF mv l l.length = idP mv l := by
  unfold idP
  rcases idF_spec (mv := mv) (l := l) (Nat.le_refl _) with ⟨h1, h2⟩ | ⟨i, hi, h0, h1, h2, h3⟩
  · have : l.findIdx? (moP mv) = none := List.findIdx?_eq_none_iff.2 fun x hx => by obtain ⟨i, hi, rfl⟩ := List.getElem_of_mem hx; exact h2 i hi (by omega)
    rw [this, h1]
  · have : l.findIdx? (moP mv) = some i := List.findIdx?_eq_some_iff_getElem.2 ⟨hi, h2, fun j hj => by simp [h3 j (by omega) (by omega) hj]⟩
    rw [this, h1]
theorem rapply_ok {p : Option Addr} {l : List TI} {c : Nat} (h : Cells w p (l.flatMap recIIU)) (hl : l.length ≤ 1000) {q : Option Addr} {mvs : List MV} {d : Nat} (hq : Cells w q (mvs.flatMap recIII)) (hlm : mvs.length ≤ 10000) :
    Calls Tryd.prog 20 #[.slice p l.length c, .slice q mvs.length d] w fun e w' =>
      (apL l mvs = none ∧ e = .returned (.tuple #[.slice none 0 0, .int .i64 4]) ∧ Upd no w w') ∨
      ∃ l' p' c', apL l mvs = some l' ∧ e = .returned (.tuple #[.slice p' l'.length c', .int .i64 0]) ∧ LocR recIIU 3 w w' 54 p' c' l' := by
  refine u20 ?_
  rw [t20]
  obtain ⟨pl, cl, w1, hr, hL⟩ := (LocR.nil (f := recIIU) (sz := 3) (Upd.refl no w) 54).moreQ elTr recIIU_len recIIU_one h (d := c) (by simp; omega) (by simp; omega) 22
  rw [List.nil_append] at hr hL
  have hM : Mine w w1 (LsR recIIU 3 54) (pl, cl, l) := Mine.new (B := LsR recIIU 3 54) (t := (pl, cl, l)) (G := fpS pl) (Upd.refl _ _) hL.U ⟨fun _ => Iff.rfl, hL.S⟩ hL.F
  clear hL
  refine ⟨pl, _, cl, w1, hr, ⟨WP_loop okProg (M := M20) (σ := Nat × List TI) (fun s => e20_1 q mvs.length d pl s.2.length cl (s.1 : Int)) (fun s w' => s.1 ≤ mvs.length ∧ apL l (mvs.take s.1) = some s.2 ∧ Mine w w' (LsR recIIU 3 54) (pl, cl, s.2)) (fun s _ => mvs.length - s.1) (0, l) ⟨rfl, rfl, rfl, trivial⟩ ⟨by simp, rfl, hM⟩ ?_⟩⟩
  clear hM hr
  rintro ⟨j, x⟩ w2 ⟨j1, j2, hM⟩
  simp only at j1 j2 hM ⊢
  have hxl := apL_len j2
  rw [t20_1]
  refine ⟨fun g => ?_, fun g => ?_⟩
  · have hj : j < mvs.length := by simp at g; omega
    have e1 : apL l (mvs.take (j + 1)) = ap1 x mvs[j] := by rw [List.take_succ_eq_append_getElem hj, apL_snoc, j2]; rfl
    refine ⟨WP_loop okProg (M := M20) (σ := Nat) (fun k => e20_4 q mvs.length d pl x.length cl (j : Int) (idF mvs[j] x k) ((x.length : Int) - (k : Int))) (fun k w' => k ≤ x.length ∧ Mine w w' (LsR recIIU 3 54) (pl, cl, x)) (fun k _ => x.length - k) 0 ⟨rfl, rfl, rfl, rfl, by rw [show (x.length : Int) - ((0 : Nat) : Int) = (x.length : Int) by omega]; rfl, trivial⟩ ⟨by omega, hM⟩ ?_⟩
    clear hM
    rintro k w3 ⟨k1, hM⟩
    rw [t20_4]
    refine ⟨fun g1 => ?_, fun g1 => ?_⟩
    · have hk : k < x.length := by simp at g1; omega
      intro w4 q1 q2 q3 q4
      replace hM := hM.upd (Upd.same no q1 q2 q3 q4)
      have hi : x.length - (k + 1) < x.length := by omega
      obtain ⟨a, ha, hc⟩ := (LsR.cells hM.turn.choose_spec.1).atk recIIU_len (by decide) hi
      obtain ⟨a', ha', hc'⟩ := (hq.no hM.U).atk recIII_len (by decide) hj
      have ew : IntKind.wrap .i64 ((x.length : Int) - (k : Int) - 1) = ((x.length - (k + 1) : Nat) : Int) := by rw [w64 (by omega)]; omega
      rw [ew]
      simp only [Int.toNat_natCast]
      have e0 : x.getD (x.length - (k + 1)) (0, 0, 0) = x[x.length - (k + 1)] := by simp [hi]
      have e2 : idF mvs[j] x (k + 1) = if moP mvs[j] x[x.length - (k + 1)] then ((x.length - (k + 1) : Nat) : Int) else idF mvs[j] x k := by rw [idF, e0]
      have nx : ∀ v, idF mvs[j] x (k + 1) = v → ∃ k' : Nat, CoversL [(1, SV.v (.slice q mvs.length d)), (6, SV.v (.slice pl x.length cl)), (7, SV.v (.int .i64 j)), (8, SV.v (.int .i64 v)), (9, SV.v (.int .i64 ((x.length - (k + 1) : Nat) : Int)))] (e20_4 q mvs.length d pl x.length cl (j : Int) (idF mvs[j] x k') ((x.length : Int) - (k' : Int))) ∧ (k' ≤ x.length ∧ Mine w w4 (LsR recIIU 3 54) (pl, cl, x)) ∧ x.length - k' < x.length - k :=
        fun v hv => ⟨k + 1, ⟨rfl, rfl, rfl, by rw [hv]; rfl, by rw [show (x.length : Int) - ((k + 1 : Nat) : Int) = ((x.length - (k + 1) : Nat) : Int) by omega]; rfl, trivial⟩, ⟨by omega, hM⟩, by omega⟩
      refine ⟨⟨by omega, by omega⟩, a, ha, _, hc 0 _ rfl, ⟨by omega, by omega⟩, a', ha', _, hc' 0 _ rfl, fun g2 => ⟨⟨by omega, by omega⟩, a, ha, _, hc 1 _ rfl, ⟨by omega, by omega⟩, a', ha', _, hc' 1 _ rfl, fun g3 => nx _ ?_, fun g3 => nx _ ?_⟩, fun g2 => nx _ ?_⟩
      · rw [e2, moP, g2, g3]; rfl
      · rw [e2, moP, g2, g3]; rfl
      · rw [e2, moP, g2]; rfl
    · have : k = x.length := by simp at g1; omega
      subst this
      refine CutD.mk ?_
      rw [idF_all]
      rw [t20_3]
      unfold idP
      cases hf : x.findIdx? (moP mvs[j]) with
      | none =>
        refine ⟨fun _ => .inl ⟨?_, rfl, hM.U⟩, fun g => by simp at g⟩
        have e2 : ap1 x mvs[j] = none := by unfold ap1; rw [hf]
        rw [← List.take_append_drop (j + 1) mvs, apL_app, e1, e2]
        rfl
      | some i =>
        obtain ⟨hi, _⟩ := List.findIdx?_eq_some_iff_getElem.1 hf
        have e2 : ap1 x mvs[j] = some (x.set i (x[i].1, (mvs[j]).2.2, x[i].2.2)) := by unfold ap1; rw [hf]; simp [hi]
        obtain ⟨a', ha', hc'⟩ := (hq.no hM.U).atk recIII_len (by decide) hj
        dsimp only
        refine ⟨fun g => absurd (of_decide_eq_true g) (by omega), fun _ => ⟨⟨by omega, by omega⟩, a', ha', _, hc' 2 _ rfl, ⟨by omega, by omega⟩, ?_⟩⟩
        obtain ⟨_, hA, hT⟩ := hM.turn
        simp only [Int.toNat_natCast]
        refine LsR.wr recIIU_len hA hi (j := 1) (y := (x[i].1, (mvs[j]).2.2, x[i].2.2)) (by omega) rfl fun w6 hT6 => ?_
        exact ⟨(j + 1, x.set i (x[i].1, (mvs[j]).2.2, x[i].2.2)), ⟨rfl, by simp only [List.length_set]; rfl, by rw [w64 (by omega)]; rfl, trivial⟩, ⟨by simp only; omega, by rw [e1, e2], hT _ _ hT6⟩, by simp only; omega⟩
  · have : j = mvs.length := by simp at g; omega
    subst this
    rw [List.take_length] at j2
    obtain ⟨F, hA, hU, hF⟩ := hM
    exact .inr ⟨x, pl, cl, j2, rfl, hU, hA.2, fun i hi => hF i ((hA.1 i).2 hi)⟩
end
end Go.Dav
