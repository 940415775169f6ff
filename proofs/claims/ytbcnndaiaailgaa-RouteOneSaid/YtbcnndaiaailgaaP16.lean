/- The statements on tables of interrupts: what their functions come to. -/
import Derived.Test.YtbcnndaiaailgaaRoute16
set_option linter.unusedSimpArgs false
set_option linter.unusedVariables false
namespace Go.Dav
open Go.Proofs

theorem on_len (x : RtS) (c : Int) : (onL x c).length ≤ 16 := upto_length _ _
section
variable {w : World} {F : Fp} {b : Nat} {x : RtS} {y : Option Addr × Nat}
theorem onC_ok (h : RtO b w F x) (c : Int) : Calls Try.prog 16 #[.pointer (some ⟨b, 0, none⟩), .int .i64 c] w fun e w' => ∃ p d, e = .returned (.slice p (onL x c).length d) ∧ Cells w' p ((onL x c).map (Value.int .i64)) ∧ Upd no w w' := by
  refine (on_ok h c).mono ?_
  rintro e w' ⟨p, d, rfl, hL⟩
  exact ⟨p, d, rfl, hL.S.cells, hL.U⟩
theorem ronC_ok (h : QtH b w F (x, y)) (hk : x.ok) (c : Int) : Calls Try.prog 17 #[.pointer (some ⟨b, 0, none⟩), .int .i64 c] w fun e w' => ∃ p d, e = .returned (.slice p (onL x c).length d) ∧ Cells w' p ((onL x c).map (Value.int .i64)) ∧ Upd no w w' := by
  refine (ron_ok h hk c).mono ?_
  rintro e w' ⟨p, d, rfl, hL⟩
  exact ⟨p, d, rfl, hL.S.cells, hL.U⟩
end

theorem fresh_ok {n : Int} (h : n ≤ 64) : RtS.ok (n, List.replicate 16 (-1)) := ⟨rfl, h, fun v hv => by rw [List.mem_replicate] at hv; omega⟩
theorem new_ok (n : Int) (w : World) : Calls Try.prog 6 #[.int .i64 n] w fun e w' =>
    (¬ (1 ≤ n ∧ n ≤ 64) ∧ e = .returned (.tuple #[.pointer none, .int .i64 2]) ∧ w' = w) ∨
    ((1 ≤ n ∧ n ≤ 64) ∧ ∃ b F, e = .returned (.tuple #[.pointer (some ⟨b, 0, none⟩), .int .i64 0]) ∧ RtO b w' F (n, List.replicate 16 (-1)) ∧ Upd no w w' ∧ ∀ i, F i → w.heap.size ≤ i) := by
  refine u6 ?_
  rw [t6]
  refine ⟨fun h1 => ⟨fun h2 => .inl ⟨by simp at h2; omega, rfl, rfl⟩, fun h2 => ⟨fun w2 hN => .inr ⟨by simp at h1 h2; omega, w.heap.size, fun i => i = w.heap.size, rfl, ⟨Rw.new hN rfl, fresh_ok (by simp at h2; omega)⟩, hN.upd no, fun i hi => Nat.le_of_eq hi.symm⟩⟩⟩, fun h1 => .inl ⟨by simp at h1; omega, rfl, rfl⟩⟩
theorem rnew_ok (n : Int) (w : World) : Calls Try.prog 7 #[.int .i64 n] w fun e w' =>
    (¬ (1 ≤ n ∧ n ≤ 64) ∧ e = .returned (.tuple #[.pointer none, .int .i64 2]) ∧ w' = w) ∨
    ((1 ≤ n ∧ n ≤ 64) ∧ ∃ b F y, e = .returned (.tuple #[.pointer (some ⟨b, 0, none⟩), .int .i64 0]) ∧ QtH b w' F ((n, List.replicate 16 (-1)), y) ∧ Upd no w w' ∧ ∀ i, F i → w.heap.size ≤ i) := by
  refine u7 ?_
  rw [t7]
  refine ⟨fun h1 => ⟨fun h2 => .inl ⟨by simp at h2; omega, rfl, rfl⟩, fun h2 => ⟨fun w2 hN => ?_⟩⟩, fun h1 => .inl ⟨by simp at h1; omega, rfl, rfl⟩⟩
  have hM : Mine w w2 (QtH w.heap.size) ((n, List.replicate 0 (-1)), none, 0) := Mine.new (Upd.refl _ _) (hN.upd no) (Hd.nil hN rfl rfl rfl) (fun _ h => Nat.le_of_eq h.symm)
  generalize hb : w.heap.size = b at hM ⊢
  refine ⟨WP_loop okProg (M := M7) (σ := Nat) (fun i => e7_1 (some ⟨b, 0, none⟩) i) (fun i w' => i ≤ 16 ∧ ∃ y, Mine w w' (QtH b) ((n, List.replicate i (-1)), y)) (fun i _ => 16 - i) 0 ⟨rfl, rfl, trivial⟩ ⟨by omega, _, hM⟩ ?_⟩
  clear hM
  rintro i w1 ⟨hi, y, hM⟩
  rw [t7_1]
  refine ⟨fun g => ?_, fun g => ?_⟩
  · have hi : i < 16 := by simp at g; omega
    obtain ⟨_, hA, hT⟩ := hM.turn
    refine ⟨_, rfl, _, _, _, hA.blk.cell rfl, ⟨fun w3 hN => ?_⟩⟩
    obtain ⟨p', n', c', w4, hr, hn, hS, hU, hF⟩ := append1 elI hA.sl (by simp; omega) hN 38
    subst hn
    have hB := hA.blkU hU
    refine ⟨p', _, c', w4, hr, _, rfl, hB.wr (by simp) (fun w5 hW => ?_)⟩
    refine ⟨i + 1, ⟨rfl, by rw [w64 (by omega)]; rfl, trivial⟩, ⟨by omega, (p', c'), hT _ _ ?_⟩, by omega⟩
    refine hA.put (s' := (n, List.replicate (i + 1) (-1))) ?_ hU hF ?_
    · rw [List.replicate_succ']; exact hS
    · rw [List.replicate_succ']; exact hW
  · have : i = 16 := by simp at g; omega
    subst this
    obtain ⟨F, k1, k2, k3⟩ := hM
    exact .inr ⟨by simp at h1 h2; omega, b, F, y, rfl, k1, k2, fun i hi => hb ▸ k3 i hi⟩

theorem setNil_ok (n : Int) (c : Int) (w : World) : Calls Try.prog 11 #[.pointer none, .int .i64 n, .int .i64 c] w fun e w' => e = .returned (.int .i64 1) ∧ w' = w := by
  refine u11 ?_
  rw [t11]
  refine ⟨(rmayNil_ok _ w).mono ?_⟩
  rintro e w' ⟨rfl, rfl⟩
  first | exact ⟨_, rfl, fun _ => ⟨rfl, rfl⟩, fun h => by simp at h⟩ | exact ⟨_, rfl, fun h => by simp at h, fun _ => ⟨rfl, rfl⟩⟩
theorem offNil_ok (n : Int) (w : World) : Calls Try.prog 9 #[.pointer none, .int .i64 n] w fun e w' => e = .returned (.int .i64 1) ∧ w' = w := by
  refine u9 ?_
  rw [t9]
  refine ⟨(rmayNil_ok _ w).mono ?_⟩
  rintro e w' ⟨rfl, rfl⟩
  first | exact ⟨_, rfl, fun _ => ⟨rfl, rfl⟩, fun h => by simp at h⟩ | exact ⟨_, rfl, fun h => by simp at h, fun _ => ⟨rfl, rfl⟩⟩
theorem ofNil_ok (n : Int) (w : World) : Calls Try.prog 13 #[.pointer none, .int .i64 n] w fun e w' => e = .returned (.tuple #[.int .i64 0, .bool false]) ∧ w' = w := by
  refine u13 ?_
  rw [t13]
  refine ⟨(rmayNil_ok _ w).mono ?_⟩
  rintro e w' ⟨rfl, rfl⟩
  first | exact ⟨_, rfl, fun _ => ⟨rfl, rfl⟩, fun h => by simp at h⟩ | exact ⟨_, rfl, fun h => by simp at h, fun _ => ⟨rfl, rfl⟩⟩
theorem onNil_ok (c : Int) (w : World) : Calls Try.prog 16 #[.pointer none, .int .i64 c] w fun e w' => e = .returned (.slice none 0 0) ∧ w' = w := by
  refine u16 ?_
  rw [t16]
  first | exact ⟨fun _ => ⟨rfl, rfl⟩, fun h => by simp at h⟩ | exact ⟨fun h => by simp at h, fun _ => ⟨rfl, rfl⟩⟩
theorem coresNil_ok  (w : World) : Calls Try.prog 18 #[.pointer none] w fun e w' => e = .returned (.int .u64 0) ∧ w' = w := by
  refine u18 ?_
  rw [t18]
  first | exact ⟨fun _ => ⟨rfl, rfl⟩, fun h => by simp at h⟩ | exact ⟨fun h => by simp at h, fun _ => ⟨rfl, rfl⟩⟩

theorem known_ok (w : World) : Calls Try.prog 8 #[] w fun e w' => e = .returned (.bool true) ∧ Upd no w w' := by
  refine u8 ?_
  rw [t8]
  refine ⟨(new_ok _ _).mono ?_⟩
  rintro e w2 hh
  obtain ⟨_, b1, F1, rfl, hQ, hU, hF⟩ := hh.resolve_left (fun h => absurd (by omega) h.1)
  have hM : Mine w w2 (RtO b1) (2, List.replicate 16 (-1)) := Mine.new (Upd.refl _ _) hU hQ hF
  clear hU hQ hF
  refine ⟨_, _, rfl, ?_⟩
  refine ⟨fun g1 => ?_, fun g1 => ?_⟩
  · refine ⟨fun g2 => ?_, fun g2 => ?_⟩
    · first | exact absurd g2 (by decide +kernel) | (simp at g2; done)
    · obtain ⟨_, hA, hT⟩ := hM.turn
      refine ⟨(set_ok hA _ _).mono ?_⟩
      rintro e w2 ⟨rfl, hU⟩
      replace hM := hT _ _ hU
      clear hA hT hU
      refine ⟨_, rfl, ?_⟩
      obtain ⟨_, hA, hT⟩ := hM.turn
      refine ⟨(set_ok hA _ _).mono ?_⟩
      rintro e w2 ⟨rfl, hU⟩
      replace hM := hT _ _ hU
      clear hA hT hU
      refine ⟨_, rfl, ?_⟩
      obtain ⟨_, hA, hT⟩ := hM.turn
      refine ⟨(set_ok hA _ _).mono ?_⟩
      rintro e w2 ⟨rfl, hU⟩
      replace hM := hT _ _ hU
      clear hA hT hU
      refine ⟨_, rfl, ?_⟩
      obtain ⟨_, hA, hT⟩ := hM.turn
      refine ⟨(of_ok hA _).mono ?_⟩
      rintro e w2 ⟨rfl, rfl⟩
      clear hA hT
      refine ⟨_, _, rfl, ?_⟩
      refine ⟨fun g3 => ?_, fun g3 => ?_⟩
      · obtain ⟨_, hA, hT⟩ := hM.turn
        refine ⟨(onC_ok hA _).mono ?_⟩
        rintro e w2 ⟨_, _, rfl, hC, hU⟩
        replace hM := hM.upd hU
        clear hA hT hU
        refine ⟨_, _, _, rfl, ?_⟩
        refine ⟨fun w2 hN => ?_⟩
        have hC2 := (Sl.new (T := 3) (n := 1) (sz := 1) (cs := ([5] : List Int).map (Value.int .i64)) hN (by simp) (by decide)).cells
        replace hM := hM.upd (hN.upd no)
        replace hC := hC.no (hN.upd no)
        refine ⟨(ints_ok hC hC2 (by decide)).mono ?_⟩
        rintro e w2 ⟨rfl, hU⟩
        replace hM := hM.upd hU
        clear hU
        refine ⟨_, rfl, ?_⟩
        refine ⟨fun g4 => ?_, fun g4 => ?_⟩
        · refine ⟨fun g5 => ?_, fun g5 => ?_⟩
          · refine ⟨fun g6 => ?_, fun g6 => ?_⟩
            · obtain ⟨_, hA, hT⟩ := hM.turn
              refine ⟨(cores_ok hA).mono ?_⟩
              rintro e w2 ⟨rfl, hU⟩
              replace hM := hM.upd hU
              clear hA hT hU
              refine ⟨_, rfl, ?_⟩
              exact ⟨congrArg (fun b => Ending.returned (Value.bool b)) (by decide +kernel), hM.U⟩
            · first | exact absurd g6 (by decide +kernel) | (simp at g6; done)
          · first | exact absurd g5 (by decide +kernel) | (simp at g5; done)
        · first | exact absurd g4 (by decide +kernel) | (simp at g4; done)
      · first | exact absurd g3 (by decide +kernel) | (simp at g3; done)
  · first | exact absurd g1 (by decide +kernel) | (simp at g1; done)

theorem routeNil_ok {W : World} {n c : Int} (_ : (Lit.int .i64 n).wf = true) (_ : (Lit.int .i64 c).wf = true) : Calls Try.prog 4 #[.int .i64 n, .int .i64 c] W fun e w' => e = .returned (.bool true) ∧ Upd no W w' := by
  refine u4 ?_
  rw [t4]
  refine ⟨(ofNil_ok _ _).mono ?_⟩
  rintro e w2 ⟨rfl, rfl⟩
  refine ⟨_, _, rfl, ?_⟩
  refine ⟨(setNil_ok _ _ _).mono ?_⟩
  rintro e w2 ⟨rfl, rfl⟩
  refine ⟨_, rfl, ?_⟩
  refine ⟨fun g1 => ?_, fun g1 => ?_⟩
  · refine ⟨(offNil_ok _ _).mono ?_⟩
    rintro e w2 ⟨rfl, rfl⟩
    refine ⟨_, rfl, ?_⟩
    refine ⟨fun g2 => ?_, fun g2 => ?_⟩
    · refine ⟨fun g3 => ?_, fun g3 => ?_⟩
      · refine ⟨(onNil_ok _ _).mono ?_⟩
        rintro e w2 ⟨rfl, rfl⟩
        refine ⟨_, _, _, rfl, ?_⟩
        refine ⟨fun g4 => ?_, fun g4 => ?_⟩
        · refine ⟨(coresNil_ok _).mono ?_⟩
          rintro e w2 ⟨rfl, rfl⟩
          refine ⟨_, rfl, ?_⟩
          refine ⟨fun g5 => ?_, fun g5 => ?_⟩
          · refine ⟨(known_ok _).mono ?_⟩
            rintro e w2 ⟨rfl, hU⟩
            refine ⟨_, rfl, ?_⟩
            exact ⟨rfl, hU⟩
          · exact absurd g5 (by decide)
        · exact absurd g4 (by decide)
      · exact absurd g3 (by decide)
    · exact absurd g2 (by decide)
  · exact absurd g1 (by decide)

theorem r3_3 {W w : World} {p : Option Addr} {n c : Nat} {b1 b2 b3 : Nat} {i : Int} {x : RtS} {y : Option Addr × Nat} {a : Int × Int × Bool} {B : Env → World → Prop}
    (hM : Mine W w (Star (Star (RtO b1) (QtH b2)) (Rw b3 32 recIIB)) ((x, (x, y)), a)) (hk : x.ok)
    (hB : ∀ w', Mine W w' (Star (RtO b1) (QtH b2)) (x, (x, y)) → B (e3_1 p n c (some ⟨b1, 0, none⟩) (some ⟨b2, 0, none⟩) (IntKind.wrap .i64 (i + 1))) w') :
    CutD Try.prog M3 c3_3 (e3_3 p n c (some ⟨b1, 0, none⟩) (some ⟨b2, 0, none⟩) i ⟨b3, 0, none⟩) w (k3_3 B fun e w' => e = .returned (.bool true) ∧ Upd no W w') := by
  refine CutD.mk ?_
  rw [t3_3]
  refine ⟨_,  (atBlk hM.right).cell rfl, ?_⟩
  obtain ⟨_, hA, hT⟩ := hM.ll
  refine ⟨(of_ok hA _).mono ?_⟩
  rintro e w2 ⟨rfl, rfl⟩
  clear hA hT
  refine ⟨_, _, rfl, ?_⟩
  refine ⟨_,  (atBlk hM.right).cell rfl, ?_⟩
  obtain ⟨_, hA, hT⟩ := hM.lr
  refine ⟨(rof_ok hA hk _).mono ?_⟩
  rintro e w2 ⟨rfl, rfl⟩
  clear hA hT
  refine ⟨_, _, rfl, ?_⟩
  intro w1 q1 q2 q3 q4
  replace hM := hM.upd (Upd.same no q1 q2 q3 q4)
  refine ⟨fun g1 => ?_, fun g1 => ?_⟩
  · refine ⟨fun g2 => ?_, fun g2 => ?_⟩
    · refine ⟨_,  (atBlk hM.right).cell rfl, ?_⟩
      refine ⟨_,  (atBlk hM.right).cell rfl, ?_⟩
      obtain ⟨_, hA, hT⟩ := hM.ll
      refine ⟨(onC_ok hA _).mono ?_⟩
      rintro e w2 ⟨_, _, rfl, hC, hU⟩
      replace hM := hM.upd hU
      clear hA hT hU
      refine ⟨_, _, _, rfl, ?_⟩
      refine ⟨(atBlk hM.right).cell rfl, ?_⟩
      obtain ⟨_, hA, hT⟩ := hM.lr
      refine ⟨(ronC_ok hA hk _).mono ?_⟩
      rintro e w2 ⟨_, _, rfl, hC2, hU⟩
      replace hM := hM.upd hU
      replace hC := hC.no hU
      clear hA hT hU
      refine ⟨_, _, _, rfl, ?_⟩
      refine ⟨(ints_ok hC hC2 (Nat.le_trans (on_len _ _) (by decide))).mono ?_⟩
      rintro e w2 ⟨rfl, hU⟩
      replace hM := hM.upd hU
      clear hU
      refine ⟨_, rfl, ?_⟩
      refine ⟨fun g3 => ?_, fun g3 => ?_⟩
      · obtain ⟨_, hA, hT⟩ := hM.ll
        refine ⟨(cores_ok hA).mono ?_⟩
        rintro e w2 ⟨rfl, hU⟩
        replace hM := hM.upd hU
        clear hA hT hU
        refine ⟨_, rfl, ?_⟩
        obtain ⟨_, hA, hT⟩ := hM.lr
        refine ⟨(rcores_ok hA hk).mono ?_⟩
        rintro e w2 ⟨rfl, rfl⟩
        clear hA hT
        refine ⟨_, rfl, ?_⟩
        refine ⟨fun g4 => ?_, fun g4 => ?_⟩
        · first | (simp only [not_true_eq_false] at g4; simp at g4; done) | (simp [not_true_eq_false] at g4; done) | (simp [not_true_eq_false] at g4; omega)
        · exact hB _ hM.drop
      · first | (simp only [not_true_eq_false] at g3; simp at g3; done) | (simp [not_true_eq_false] at g3; done) | (simp [not_true_eq_false] at g3; omega)
    · first | (simp only [not_true_eq_false] at g2; simp at g2; done) | (simp [not_true_eq_false] at g2; done) | (simp [not_true_eq_false] at g2; omega)
  · first | (simp only [not_true_eq_false] at g1; simp at g1; done) | (simp [not_true_eq_false] at g1; done) | (simp [not_true_eq_false] at g1; omega)

theorem routePlays_ok {W : World} {cpus : Int} {p : Option Addr} {l : List (Int × Int × Bool)} {c : Nat} (_ : (Lit.int .i64 cpus).wf = true) (_ : ∀ x ∈ l, okIIB x) (h : Cells W p (l.flatMap recIIB)) (_ : l.length ≤ maxLen) :
    Calls Try.prog 3 #[.int .i64 cpus, .slice p l.length c] W fun e w' => e = .returned (.bool true) ∧ Upd no W w' := by
  refine u3 ?_
  rw [t3]
  refine ⟨(new_ok cpus W).mono ?_⟩
  rintro e w1 (⟨hno, rfl, rfl⟩ | ⟨hyes, b1, F1, rfl, hQ, hU, hF⟩)
  · refine ⟨_, _, rfl, ⟨(rnew_ok cpus w1).mono ?_⟩⟩
    rintro e w2 (⟨_, rfl, rfl⟩ | ⟨h, _⟩)
    · refine ⟨_, _, rfl, fun _ => ⟨fun g => by simp at g, fun _ => ⟨fun _ => ⟨(known_ok _).mono ?_⟩, fun g => by simp at g⟩⟩, fun g => by simp at g⟩
      rintro e w3 ⟨rfl, hU⟩
      exact ⟨_, rfl, rfl, hU⟩
    · exact absurd h hno
  · have hM : Mine W w1 (RtO b1) (cpus, List.replicate 16 (-1)) := Mine.new (Upd.refl _ _) hU hQ hF
    refine ⟨_, _, rfl, ⟨(rnew_ok cpus w1).mono ?_⟩⟩
    rintro e w2 (⟨h, _⟩ | ⟨_, b2, F2, y, rfl, hQ2, hU2, hF2⟩)
    · exact absurd hyes h
    · replace hM : Mine W w2 (Star (RtO b1) (QtH b2)) ((cpus, List.replicate 16 (-1)), ((cpus, List.replicate 16 (-1)), y)) := hM.add hU2 hQ2 hF2
      clear hU hQ hF hU2 hQ2 hF2
      refine ⟨_, _, rfl, fun _ => ⟨fun g => by simp at g, fun _ => ⟨fun g => by simp at g, fun _ => ?_⟩⟩, fun g => by simp at g⟩
      refine ⟨WP_loop okProg (M := M3) (σ := Nat × RtS) (fun x => e3_1 p l.length c (some ⟨b1, 0, none⟩) (some ⟨b2, 0, none⟩) (x.1 : Int))
        (fun x w => x.1 ≤ l.length ∧ x.1 ≤ 150 ∧ ∃ y, Mine W w (Star (RtO b1) (QtH b2)) (x.2, (x.2, y))) (fun x _ => l.length - x.1) (0, (cpus, List.replicate 16 (-1))) ⟨rfl, rfl, rfl, rfl, trivial⟩
        ⟨by simp, by simp, _, hM⟩ ?_⟩
      clear hM y
      rintro ⟨i, x⟩ w ⟨h1, h2, y, hM⟩
      simp only at h1 h2 hM ⊢
      have hk := hM.left.choose_spec.1.2
      simp only at hk
      have hgo : CutD Try.prog M3 c3_0 e3_0 w (k3_0 fun e w' => e = .returned (.bool true) ∧ Upd no W w') := by
        refine CutD.mk ?_
        rw [t3_0]
        refine ⟨(known_ok _).mono ?_⟩
        rintro e w9 ⟨rfl, hU9⟩
        exact ⟨_, rfl, rfl, hM.U.and hU9⟩
      rw [t3_1]
      refine ⟨fun g1 => ?_, fun g1 => ?_⟩
      · refine ⟨fun g2 => ?_, fun g2 => ?_⟩
        · have hi : i < l.length := by simpa using g1
          have hi2 : i < 150 := by simp at g2; omega
          refine ⟨⟨by omega, by omega⟩, ?_⟩
          obtain ⟨_, ha, hc⟩ := (h.no hM.U).atk recIIB_len (by decide) hi
          cases ha
          refine ⟨_, rfl, ?_⟩
          refine ⟨_,  hc 0 _ rfl, ?_⟩
          refine ⟨_,  hc 1 _ rfl, ?_⟩
          refine ⟨_,  hc 2 _ rfl, ?_⟩
          refine ⟨fun w2 hN => ?_⟩
          replace hM := hM.add (hN.upd no) (Rw.new (enc := recIIB) (s := (0, 0, false)) hN rfl) (fun _ h => Nat.le_of_eq h.symm)
          obtain ⟨_, hA, hT⟩ := hM.right
          refine hA.blk.wr0 (by simp [recIIB]) fun w3 hW => ?_
          replace hM := hT _ (l[i]) (hA.turned hW.U hW.blk')
          clear hA hT hW
          refine ⟨_,  (atBlk hM.right).cell rfl, ?_⟩
          refine ⟨fun g3 => ?_, fun g3 => ?_⟩
          · intro w1 q1 q2 q3 q4
            replace hM := hM.upd (Upd.same no q1 q2 q3 q4)
            refine ⟨_,  (atBlk hM.right).cell rfl, ?_⟩
            refine ⟨_,  (atBlk hM.right).cell rfl, ?_⟩
            obtain ⟨_, hA, hT⟩ := hM.ll
            refine ⟨(off_ok hA _).mono ?_⟩
            rintro e w2 ⟨rfl, hU⟩
            replace hM := hT _ _ hU
            clear hA hT hU
            refine ⟨_, rfl, ?_⟩
            refine ⟨(atBlk hM.right).cell rfl, ?_⟩
            obtain ⟨_, hA, hT⟩ := hM.lr
            refine ⟨(roff_ok hA hk _).mono ?_⟩
            rintro e w2 ⟨rfl, hU⟩
            replace hM := hT _ _ hU
            clear hA hT hU
            refine ⟨_, rfl, ?_⟩
            refine ⟨fun g4 => ?_, fun g4 => ?_⟩
            · simp at g4
            · have hk2 := hM.ll.choose_spec.1.2
              refine r3_3 hM hk2 fun w4 hM => ?_
              exact ⟨(i + 1, (offS x l[i].1)), ⟨rfl, rfl, rfl, by rw [w64 (by omega)]; rfl, trivial⟩, ⟨by simp only; omega, by simp only; omega, _, hM⟩, by simp only; omega⟩
          · intro w1 q1 q2 q3 q4
            replace hM := hM.upd (Upd.same no q1 q2 q3 q4)
            refine ⟨_,  (atBlk hM.right).cell rfl, ?_⟩
            refine ⟨_,  (atBlk hM.right).cell rfl, ?_⟩
            refine ⟨_,  (atBlk hM.right).cell rfl, ?_⟩
            refine ⟨_,  (atBlk hM.right).cell rfl, ?_⟩
            obtain ⟨_, hA, hT⟩ := hM.ll
            refine ⟨(set_ok hA _ _).mono ?_⟩
            rintro e w2 ⟨rfl, hU⟩
            replace hM := hT _ _ hU
            clear hA hT hU
            refine ⟨_, rfl, ?_⟩
            refine ⟨(atBlk hM.right).cell rfl, ?_⟩
            refine ⟨(atBlk hM.right).cell rfl, ?_⟩
            obtain ⟨_, hA, hT⟩ := hM.lr
            refine ⟨(rset_ok hA hk _ _).mono ?_⟩
            rintro e w2 ⟨rfl, hU⟩
            replace hM := hT _ _ hU
            clear hA hT hU
            refine ⟨_, rfl, ?_⟩
            refine ⟨fun g5 => ?_, fun g5 => ?_⟩
            · simp at g5
            · have hk2 := hM.ll.choose_spec.1.2
              refine r3_3 hM hk2 fun w4 hM => ?_
              exact ⟨(i + 1, (setS x l[i].1 l[i].2.1)), ⟨rfl, rfl, rfl, by rw [w64 (by omega)]; rfl, trivial⟩, ⟨by simp only; omega, by simp only; omega, _, hM⟩, by simp only; omega⟩
        · exact hgo
      · exact hgo
end Go.Dav
