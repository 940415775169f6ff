/- The statements on the cores' queues: what their functions come to. -/
import Derived.Test.YtgakbnonkgohfaaRqL10p
import Derived.Test.YtgakbnonkgohfaaLoc
set_option linter.unusedSimpArgs false
set_option linter.unusedVariables false
namespace Go.Dav
open Go.Proofs
theorem known_ok (w : World) : Calls Try.prog 11 #[] w fun e w' => e = .returned (.bool true) ∧ Upd no w w' := by
  refine u11 ?_
  rw [t11]
  refine ⟨(rqnew_ok _ _).mono ?_⟩
  rintro e w2 hh
  obtain ⟨_, b1, F1, rfl, hQ, hU, hF⟩ := hh.resolve_left (fun h => absurd (by unfold okRq; decide) h.1)
  have hM : Mine w w2 (RqO b1) (List.replicate 2 (32, [])) := Mine.new (Upd.refl _ _) hU hQ hF
  clear hU hQ hF
  refine ⟨_, _, rfl, ?_⟩
  refine ⟨fun g1 => ?_, fun g1 => ?_⟩
  · refine ⟨fun g2 => ?_, fun g2 => ?_⟩
    · first | exact absurd g2 (by decide +kernel) | (simp at g2; done)
    · obtain ⟨_, hA, hT⟩ := hM.turn
      refine ⟨(rqput_ok hA _ _ _).mono ?_⟩
      rintro e w2 ⟨rfl, hU⟩
      replace hM := hT _ _ hU
      clear hA hT hU
      refine ⟨_, rfl, ?_⟩
      obtain ⟨_, hA, hT⟩ := hM.turn
      refine ⟨(rqput_ok hA _ _ _).mono ?_⟩
      rintro e w2 ⟨rfl, hU⟩
      replace hM := hT _ _ hU
      clear hA hT hU
      refine ⟨_, rfl, ?_⟩
      obtain ⟨_, hA, hT⟩ := hM.turn
      refine ⟨(rqpick_ok hA _).mono ?_⟩
      rintro e w2 ⟨rfl, hU⟩
      replace hM := hT _ _ hU
      clear hA hT hU
      refine ⟨_, _, rfl, ?_⟩
      obtain ⟨_, hA, hT⟩ := hM.turn
      refine ⟨(rqmove_ok hA _ _).mono ?_⟩
      rintro e w2 ⟨rfl, hU⟩
      replace hM := hT _ _ hU
      clear hA hT hU
      refine ⟨_, _, rfl, ?_⟩
      obtain ⟨_, hA, hT⟩ := hM.turn
      refine ⟨(rqwhere_ok hA _).mono ?_⟩
      rintro e w2 ⟨rfl, rfl⟩
      clear hA hT
      refine ⟨_, _, rfl, ?_⟩
      refine ⟨fun g3 => ?_, fun g3 => ?_⟩
      · refine ⟨fun g4 => ?_, fun g4 => ?_⟩
        · refine ⟨fun g5 => ?_, fun g5 => ?_⟩
          · refine ⟨fun g6 => ?_, fun g6 => ?_⟩
            · refine ⟨fun g7 => ?_, fun g7 => ?_⟩
              · refine ⟨fun g8 => ?_, fun g8 => ?_⟩
                · obtain ⟨_, hA, hT⟩ := hM.turn
                  refine ⟨(rqload_ok hA _).mono ?_⟩
                  rintro e w2 ⟨rfl, rfl⟩
                  clear hA hT
                  refine ⟨_, rfl, ?_⟩
                  exact ⟨congrArg (fun b => Ending.returned (Value.bool b)) (by decide +kernel), hM.U⟩
                · first | exact absurd g8 (by decide +kernel) | (simp at g8; done)
              · first | exact absurd g7 (by decide +kernel) | (simp at g7; done)
            · first | exact absurd g6 (by decide +kernel) | (simp at g6; done)
          · first | exact absurd g5 (by decide +kernel) | (simp at g5; done)
        · first | exact absurd g4 (by decide +kernel) | (simp at g4; done)
      · first | exact absurd g3 (by decide +kernel) | (simp at g3; done)
  · first | exact absurd g1 (by decide +kernel) | (simp at g1; done)

theorem elAct : ElemT Try.prog 22 29 5 40 [.int .i64 0, .int .i64 0, .int .i64 0, .int .i64 0, .int .i64 0] := ⟨by kernel_rfl, by kernel_rfl, rfl, by omega⟩
theorem recIIIII_one (x : Int × Int × Int × Int × Int) : ∀ u ∈ recIIIII x, u.oneCell' = true := by
  intro u hu
  simp only [recIIIII, List.mem_cons, List.not_mem_nil, or_false] at hu
  rcases hu with rfl | rfl | rfl | rfl | rfl <;> rfl

theorem runqRound_ok {W : World} {p : Option Addr} {l : List (Int × Int × Int × Int × Int)} {c : Nat} (_ : ∀ x ∈ l, okIIIII x) (h : Cells W p (l.flatMap recIIIII)) (_ : l.length ≤ maxLen) :
    Calls Try.prog 3 #[.slice p l.length c] W fun e w' => e = .returned (.bool true) ∧ Upd no W w' := by
  refine u3 ?_
  rw [t3]
  refine ⟨(rqnew_ok 1 W).mono ?_⟩
  rintro e w1 hh
  obtain ⟨_, b1, F1, rfl, hQ, hU, hF⟩ := hh.resolve_left (fun h => absurd (by unfold okRq; decide) h.1)
  have hM : Mine W w1 (RqO b1) [(32, [])] := Mine.new (Upd.refl _ _) hU hQ hF
  clear hU hQ hF
  refine ⟨_, _, rfl, fun g => by simp at g, fun _ => ?_⟩
  refine ⟨WP_loop okProg (M := M3) (σ := Nat × (Nat × Its)) (fun x => e3_2 p l.length c (some ⟨b1, 0, none⟩) (x.1 : Int))
    (fun x w => x.1 ≤ l.length ∧ Mine W w (RqO b1) [x.2]) (fun x _ => l.length - x.1) (0, (32, [])) ⟨rfl, rfl, rfl, trivial⟩ ⟨by simp, hM⟩ ?_⟩
  clear hM
  rintro ⟨i, x⟩ w ⟨h1, hM⟩
  simp only at h1 hM ⊢
  have fin : CutD Try.prog M3 c3_0 (e3_0 (some ⟨b1, 0, none⟩)) w (k3_0 fun e w' => e = .returned (.bool true) ∧ Upd no W w') := by
    have hV : PqV x := by obtain ⟨_, hA, _⟩ := hM.turn; exact hA.V (i := 0) (by simp)
    have hlen := listOf_len x.2
    have hV' := hV.len
    refine CutD.mk ?_
    rw [t3_0]
    obtain ⟨_, hA, _⟩ := hM.turn
    refine ⟨(rqlist_ok hA 0).mono ?_⟩
    clear hA
    rintro e w2 ⟨p2, c2, rfl, hL⟩
    rw [list1] at hL ⊢
    replace hM : Mine W w2 (Star (RqO b1) (Ls 3)) ([x], (p2, c2, listOf x.2)) := hM.add hL.U ⟨fun _ => Iff.rfl, hL.S⟩ hL.F
    clear hL
    by_cases hne : listOf x.2 = []
    · rw [hne] at hM ⊢
      refine ⟨_, _, _, rfl, ⟨WP_loop okProg (M := M3) (σ := Unit) (fun _ => e3_3 (some ⟨b1, 0, none⟩) p2 0 c2 0) (fun _ w' => Mine W w' (Star (RqO b1) (Ls 3)) ([x], (p2, c2, []))) (fun _ _ => 0) () ⟨rfl, rfl, rfl, trivial⟩ hM ?_⟩⟩
      clear hM
      rintro _ w5 hM
      rw [t3_3]
      refine ⟨fun g => by simp at g, fun _ => CutD.mk ?_⟩
      rw [t3_1]
      obtain ⟨_, hA, _⟩ := hM.left
      refine ⟨(rqlist_ok hA 0).mono ?_⟩
      clear hA
      rintro e w6 ⟨p3, c3, rfl, hL⟩
      rw [list1, hne] at hL ⊢
      replace hM := hM.upd hL.U
      refine ⟨_, _, _, rfl, ⟨(ints_ok (l := []) (m := []) (Cells.nil _ _) (Cells.nil _ _) (by simp)).mono ?_⟩⟩
      rintro e w7 ⟨rfl, hU⟩
      replace hM := hM.upd hU
      refine ⟨_, rfl, fun _ => ?_, fun g => by simp at g⟩
      refine ⟨(known_ok _).mono ?_⟩
      rintro e w9 ⟨rfl, hU9⟩
      exact ⟨_, rfl, rfl, hM.U.and hU9⟩
    · obtain ⟨T, hT, hTn, hTt⟩ := top_lv hV.rng hne
      have hm : 0 < (lvIds x.2 T).length := List.length_pos_iff.2 hTn
      have hmle : (lvIds x.2 T).length ≤ (listOf x.2).length := by rw [listOf_top hT hTt, List.length_append]; omega
      have h0 : Rnd x x T 0 := ⟨by simp, fun _ _ => rfl⟩
      refine ⟨_, _, _, rfl, ?_⟩
      refine ⟨WP_loop okProg (M := M3) (σ := Nat × (Nat × Its)) (fun s => e3_3 (some ⟨b1, 0, none⟩) p2 (listOf x.2).length c2 (s.1 : Int))
        (fun s w' => s.1 ≤ (lvIds x.2 T).length ∧ Rnd x s.2 T s.1 ∧ Mine W w' (Star (RqO b1) (Ls 3)) ([s.2], (p2, c2, listOf x.2))) (fun s _ => (listOf x.2).length - s.1) (0, x) ⟨rfl, rfl, rfl, trivial⟩ ⟨by simp, h0, hM⟩ ?_⟩
      clear hM h0
      rintro ⟨j, y⟩ w5 ⟨j1, hR, hM⟩
      simp only at j1 hR hM ⊢
      have hVy : PqV y := by obtain ⟨_, hA, _⟩ := hM.left; exact hA.V (i := 0) (by simp)
      have done : j = (lvIds x.2 T).length → CutD Try.prog M3 c3_1 (e3_1 (some ⟨b1, 0, none⟩) p2 (listOf x.2).length c2) w5 (k3_1 fun e w' => e = .returned (.bool true) ∧ Upd no W w') := by
        intro hj
        have ha := hR.all hT hTt hj
        have hly := listOf_len y.2
        have hVy' := hVy.len
        refine CutD.mk ?_
        rw [t3_1]
        obtain ⟨_, hA, _⟩ := hM.left
        refine ⟨(rqlist_ok hA 0).mono ?_⟩
        clear hA
        rintro e w6 ⟨p3, c3, rfl, hL⟩
        rw [list1] at hL ⊢
        replace hM := hM.upd hL.U
        refine ⟨_, _, _, rfl, ⟨(ints_ok hL.S.cells (Ls.cells hM.right.choose_spec.1) (by omega)).mono ?_⟩⟩
        rintro e w7 ⟨rfl, hU⟩
        replace hM := hM.upd hU
        rw [ha]
        refine ⟨_, rfl, fun _ => ?_, fun g => by simp at g⟩
        refine ⟨(known_ok _).mono ?_⟩
        rintro e w9 ⟨rfl, hU9⟩
        exact ⟨_, rfl, rfl, hM.U.and hU9⟩
      rw [t3_3]
      refine ⟨fun g => ?_, fun g => done ?_⟩
      · have hj : j < (listOf x.2).length := by simpa using g
        obtain ⟨pA, pB⟩ := hR.prio hVy hT hTt hj
        obtain ⟨p0, _⟩ := hR.prio hVy hT hTt (k := 0) (by omega)
        obtain ⟨_, p0⟩ := p0 hm
        obtain ⟨a, ha, hc⟩ := (Ls.cells hM.right.choose_spec.1).at1 hj
        obtain ⟨a', ha', hc0⟩ := (Ls.cells hM.right.choose_spec.1).at1 (i := 0) (show 0 < (listOf x.2).length by omega)
        subst ha
        cases ha'
        refine ⟨⟨by omega, by omega⟩, a, rfl, _, hc, ?_⟩
        obtain ⟨_, hA, _⟩ := hM.left
        have hpj : (prioE y (listOf x.2)[j]).2 = true := by
          rcases Nat.lt_or_ge j (lvIds x.2 T).length with hjm | hjm
          · rw [(pA hjm).2]
          · obtain ⟨k, _, q⟩ := pB hjm
            rw [q]
        refine ⟨(rqprio_ok hA _).mono ?_⟩
        rintro e w6 ⟨rfl, rfl⟩
        refine ⟨_, _, rfl, ⟨by omega, by omega⟩, a, rfl, _, hc0, ⟨(rqprio_ok hA _).mono ?_⟩⟩
        clear hA
        rintro e w6 ⟨rfl, rfl⟩
        rw [prio1 hpj, prio1 (by rw [p0]), p0]
        rcases Nat.lt_or_ge j (lvIds x.2 T).length with hjm | hjm
        · obtain ⟨q1, q2⟩ := pA hjm
          obtain ⟨n1, n2, n3⟩ := hR.next hVy hT hTt hjm
          have q3 : (lvIds x.2 T)[j] = (listOf x.2)[j] := by rw [q1]; simp [hjm]
          rw [q2]
          obtain ⟨_, hA, hTu⟩ := hM.left
          refine ⟨_, _, rfl, fun g => by simp at g, fun _ => ⟨(rqpick_ok hA 0).mono ?_⟩⟩
          clear hA
          rw [(pick1 y).1, (pick1 y).2]
          rintro e w7 ⟨rfl, hU⟩
          replace hM := hTu _ _ hU
          clear hU
          obtain ⟨a', ha', hc⟩ := (Ls.cells hM.right.choose_spec.1).at1 hj
          cases ha'
          rw [n1, q3]
          exact ⟨_, _, rfl, ⟨by omega, by omega⟩, a, rfl, _, hc, fun _ => ⟨fun g => by simp at g, fun _ => ⟨(j + 1, pqTurnS y), ⟨rfl, rfl, by rw [w64 (by omega)]; rfl, trivial⟩, ⟨by simp only; omega, n2, hM⟩, by simp only; omega⟩⟩, fun g => by simp at g⟩
        · obtain ⟨k, hk, q⟩ := pB hjm
          rw [q]
          refine ⟨_, _, rfl, fun _ => done (by omega), fun g => ?_⟩
          simp at g; omega
      · simp at g; omega
  rw [t3_2]
  refine ⟨fun g1 => ⟨fun g2 => ?_, fun g2 => fin⟩, fun g1 => fin⟩
  have hi : i < l.length := by simpa using g1
  have hi2 : i < 60 := by simp at g2; omega
  intro w2 q1 q2 q3 q4
  replace hM := hM.upd (Upd.same no q1 q2 q3 q4)
  obtain ⟨a, rfl, hc⟩ := (h.no hM.U).atk recIIIII_len (by decide) hi
  obtain ⟨_, hA, hT⟩ := hM.turn
  refine ⟨⟨by omega, by omega⟩, a, rfl, _, hc 3 _ rfl, ⟨by omega, by omega⟩, a, rfl, _, hc 4 _ rfl, ⟨(rqput_ok hA _ _ _).mono ?_⟩⟩
  rintro e w3 ⟨rfl, hU⟩
  obtain ⟨x', hx'⟩ := put1 x (l[i]).2.2.2.1 (l[i]).2.2.2.2
  rw [hx'] at hU
  exact ⟨_, rfl, (i + 1, x'), ⟨rfl, rfl, by rw [w64 (by omega)]; rfl, trivial⟩, ⟨by simp only; omega, hT _ _ hU⟩, by simp only; omega⟩

abbrev A5 := Int × Int × Int × Int × Int
/-- What was put is there, and no more. -/
structure PutI (n : Nat) (x : RS) (put : List A5) : Prop where
  len : x.length = n
  all : allQ x = put.length
  has : ∀ a ∈ put, hasQ x a.2.2.2.1 a.2.2.2.2
theorem runqMoves_ok {W : World} {cpus : Int} {p : Option Addr} {l : List A5} {c : Nat} {pm : Option Addr} {m : List A5} {cm : Nat} (_ : (Lit.int .i64 cpus).wf = true) (_ : ∀ x ∈ l, okIIIII x) (h : Cells W p (l.flatMap recIIIII)) (_ : l.length ≤ maxLen) (_ : ∀ x ∈ m, okIIIII x) (hm : Cells W pm (m.flatMap recIIIII)) (_ : m.length ≤ maxLen) :
    Calls Try.prog 4 #[.int .i64 cpus, .slice p l.length c, .slice pm m.length cm] W fun e w' => e = .returned (.bool true) ∧ Upd no W w' := by
  refine u4 ?_
  rw [t4]
  refine ⟨(rqnew_ok cpus W).mono ?_⟩
  rintro e w1 (⟨hno, rfl, rfl⟩ | ⟨hyes, b1, F1, rfl, hQ, hU, hF⟩)
  · have hk : Call Try.prog 11 [] w1 fun e w' => ∃ b, e = .returned (.bool b) ∧ Ending.returned (.bool b) = .returned (.bool true) ∧ Upd no w1 w' := ⟨(known_ok w1).mono fun e w' ⟨h1, h2⟩ => ⟨_, h1, rfl, h2⟩⟩
    refine ⟨_, _, rfl, fun _ => ⟨fun g => ⟨fun g2 => hk, fun g2 => ?_⟩, fun g => hk⟩, fun g => by simp at g⟩
    unfold okRq at hno
    simp at g g2; omega
  obtain ⟨N, rfl⟩ : ∃ N : Nat, cpus = N := ⟨cpus.toNat, by unfold okRq at hyes; omega⟩
  rw [Int.toNat_natCast] at hQ
  have hN : 1 ≤ N ∧ N ≤ 64 := by unfold okRq at hyes; omega
  have hM : Mine W w1 (RqO b1) (List.replicate N (32, [])) := Mine.new (Upd.refl _ _) hU hQ hF
  clear hU hQ hF
  replace hM : Mine W w1 (Star (RqO b1) (LsR recIIIII 5 29)) (List.replicate N (32, []), (none, 0, [])) := hM.add (Upd.refl _ _) (LsR.nil _ _ _ _) (fun _ h => h.elim)
  refine ⟨_, _, rfl, fun g => by simp at g, fun _ => ?_⟩
  have hPI : PutI N (List.replicate N (32, [])) [] := by
    refine ⟨by simp, ?_, fun _ h => by cases h⟩
    unfold allQ
    simp
  refine ⟨WP_loop okProg (M := M4) (σ := Nat × RS × Option Addr × Nat × List A5) (fun s => e4_2 (N : Int) p l.length c pm m.length cm (some ⟨b1, 0, none⟩) s.2.2.1 s.2.2.2.2.length s.2.2.2.1 (s.1 : Int))
    (fun s w => s.1 ≤ l.length ∧ s.1 ≤ 30 ∧ s.2.2.2.2.length ≤ s.1 ∧ PutI N s.2.1 s.2.2.2.2 ∧ Mine W w (Star (RqO b1) (LsR recIIIII 5 29)) (s.2.1, s.2.2)) (fun s _ => l.length - s.1) (0, List.replicate N (32, []), none, 0, []) ⟨rfl, rfl, rfl, rfl, rfl, rfl, trivial⟩ ⟨by simp, by simp, by simp, hPI, hM⟩ ?_⟩
  clear hM hPI
  rintro ⟨i, x, pp, pc, put⟩ w ⟨h1, h2, h3, hPI, hM⟩
  simp only at h1 h2 h3 hPI hM ⊢
  have fin : CutD Try.prog M4 c4_0 (e4_0 (N : Int) pm m.length cm (some ⟨b1, 0, none⟩) pp put.length pc) w (k4_0 fun e w' => e = .returned (.bool true) ∧ Upd no W w') := by
    refine CutD.mk ?_
    rw [t4_0]
    refine ⟨WP_loop okProg (M := M4) (σ := Nat × RS) (fun s => e4_4 (N : Int) pm m.length cm (some ⟨b1, 0, none⟩) pp put.length pc (s.1 : Int)) (fun s w => s.1 ≤ m.length ∧ PutI N s.2 put ∧ Mine W w (Star (RqO b1) (LsR recIIIII 5 29)) (s.2, (pp, pc, put))) (fun s _ => m.length - s.1) (0, x) ⟨rfl, rfl, rfl, rfl, rfl, trivial⟩ ⟨by simp, hPI, hM⟩ ?_⟩
    clear hM hPI
    rintro ⟨j, x⟩ w ⟨j1, hPI, hM⟩
    simp only at j1 hPI hM ⊢
    have hW : RqW x := by obtain ⟨_, hA, _⟩ := hM.left; exact hA.W
    have fin2 : CutD Try.prog M4 c4_1 (e4_1 (N : Int) (some ⟨b1, 0, none⟩) pp put.length pc) w (k4_1 fun e w' => e = .returned (.bool true) ∧ Upd no W w') := by
      refine CutD.mk ?_
      rw [t4_1]
      have hle := allQ_le hW
      refine ⟨WP_loop okProg (M := M4) (σ := Nat) (fun k => e4_6 (N : Int) (some ⟨b1, 0, none⟩) pp put.length pc (allQ (x.take k) : Int) (k : Int)) (fun k w' => k ≤ N ∧ w' = w) (fun k _ => N - k) 0 ⟨rfl, rfl, rfl, rfl, rfl, trivial⟩ ⟨by simp, rfl⟩ ?_⟩
      rintro k w2 ⟨k1, rfl⟩
      rw [t4_6]
      refine ⟨fun g => ?_, fun g => CutD.mk ?_⟩
      · have hk : k < N := by simp at g; omega
        obtain ⟨_, hA, _⟩ := hM.left
        refine ⟨(rqload_ok hA _).mono ?_⟩
        rintro e w3 ⟨rfl, rfl⟩
        have hld := load_take (x := x) (c := k) (by rw [hPI.len]; exact hk)
        have h5 := allQ_take x (k + 1)
        rw [hPI.len] at hle
        have h6 : N * 1024 ≤ 64 * 1024 := Nat.mul_le_mul_right _ hN.2
        refine ⟨_, rfl, k + 1, ⟨rfl, rfl, rfl, ?_, by rw [w64 (x := (k : Int) + 1) (by omega)]; rfl, trivial⟩, ⟨by omega, rfl⟩, by omega⟩
        rw [hld, w64 (by omega)]; rfl
      · have : k = N := by simp at g; omega
        subst this
        rw [List.take_of_length_le (Nat.le_of_eq hPI.len)]
        rw [t4_3]
        refine ⟨WP_loop okProg (M := M4) (σ := Nat) (fun i => e4_7 (some ⟨b1, 0, none⟩) pp put.length pc (allQ x : Int) (i : Int)) (fun i w' => i ≤ put.length ∧ w' = w2) (fun i _ => put.length - i) 0 ⟨rfl, rfl, rfl, rfl, trivial⟩ ⟨by simp, rfl⟩ ?_⟩
        rintro i w3 ⟨i1, rfl⟩
        rw [t4_7]
        refine ⟨fun g => ?_, fun g => CutD.mk ?_⟩
        · have hi : i < put.length := by simpa using g
          obtain ⟨a, ha, hc⟩ := (LsR.cells hM.right.choose_spec.1).atk recIIIII_len (by decide) hi
          obtain ⟨_, hA, _⟩ := hM.left
          refine ⟨⟨by omega, by omega⟩, a, ha, _, hc 4 _ rfl, ⟨(rqprio_ok hA _).mono ?_⟩⟩
          rintro e w4 ⟨rfl, rfl⟩
          rw [hW.prio (hPI.has _ (List.getElem_mem hi))]
          exact ⟨_, _, rfl, fun _ => ⟨⟨by omega, by omega⟩, a, ha, _, hc 3 _ rfl, fun g => by simp at g, fun _ => ⟨i + 1, ⟨rfl, rfl, rfl, by rw [w64 (by omega)]; rfl, trivial⟩, ⟨by omega, rfl⟩, by omega⟩⟩, fun g => by simp at g⟩
        · rw [t4_5]
          refine ⟨fun _ => ?_, fun g => ?_⟩
          · refine ⟨(known_ok _).mono ?_⟩
            rintro e w9 ⟨rfl, hU9⟩
            exact ⟨_, rfl, rfl, hM.U.and hU9⟩
          · have := hPI.all
            simp at g; omega
    rw [t4_4]
    refine ⟨fun g1 => ⟨fun g2 => ?_, fun g2 => fin2⟩, fun g1 => fin2⟩
    have hj : j < m.length := by simpa using g1
    have hj2 : j < 60 := by simp at g2; omega
    intro w2 q1 q2 q3 q4
    replace hM := hM.upd (Upd.same no q1 q2 q3 q4)
    obtain ⟨a, rfl, hc⟩ := (hm.no hM.U).atk recIIIII_len (by decide) hj
    obtain ⟨_, hA, hT⟩ := hM.left
    refine ⟨⟨by omega, by omega⟩, a, rfl, _, hc 1 _ rfl, ⟨by omega, by omega⟩, a, rfl, _, hc 2 _ rfl, ⟨(rqmove_ok hA _ _).mono ?_⟩⟩
    rintro e w3 ⟨rfl, hU⟩
    obtain ⟨m1, m2⟩ := move_all hW (m[j]).2.1 (m[j]).2.2.1
    exact ⟨_, _, rfl, (j + 1, rqMoveS x (m[j]).2.1 (m[j]).2.2.1), ⟨rfl, rfl, rfl, rfl, by rw [w64 (by omega)]; rfl, trivial⟩, ⟨by simp only; omega, ⟨by rw [move_len]; exact hPI.len, by rw [m1]; exact hPI.all, fun a ha => m2 _ _ (hPI.has a ha)⟩, hT _ _ hU⟩, by simp only; omega⟩
  rw [t4_2]
  refine ⟨fun g1 => ⟨fun g2 => ?_, fun g2 => fin⟩, fun g1 => fin⟩
  have hi : i < l.length := by simpa using g1
  have hi2 : i < 30 := by simp at g2; omega
  intro w2 q1 q2 q3 q4
  replace hM := hM.upd (Upd.same no q1 q2 q3 q4)
  obtain ⟨a, rfl, hc⟩ := (h.no hM.U).atk recIIIII_len (by decide) hi
  obtain ⟨_, hA, hT⟩ := hM.left
  refine ⟨⟨by omega, by omega⟩, a, rfl, _, hc 1 _ rfl, ⟨by omega, by omega⟩, a, rfl, _, hc 3 _ rfl, ⟨by omega, by omega⟩, a, rfl, _, hc 4 _ rfl, ⟨(rqput_ok hA _ _ _).mono ?_⟩⟩
  rintro e w3 ⟨rfl, hU⟩
  replace hM := hT _ _ hU
  clear hA hT hU
  refine ⟨_, rfl, fun g => ?_, fun g => ?_⟩
  · have g := eq_of_beq g
    obtain ⟨k1, k2⟩ := hasQ_put g
    have k3 := allQ_put g
    obtain ⟨a', ha', hc⟩ := (h.no hM.U).atk recIIIII_len (by decide) hi
    cases ha'
    refine ⟨⟨by omega, by omega⟩, a, rfl, _, hc 0 _ rfl, _, hc 1 _ rfl, _, hc 2 _ rfl, _, hc 3 _ rfl, _, hc 4 _ rfl, ⟨fun w4 hN => ?_⟩⟩
    obtain ⟨_, hA, hT⟩ := hM.right
    obtain ⟨p', c', w5, hr, hT5⟩ := LsR.push elAct recIIIII_len recIIIII_one hA (by omega) (by omega) (x := l[i]) rfl hN 22
    exact ⟨p', _, c', w5, hr, (i + 1, rqPutS x (l[i]).2.1 (l[i]).2.2.2.1 (l[i]).2.2.2.2, p', c', put ++ [l[i]]), ⟨rfl, rfl, rfl, rfl, rfl, by rw [w64 (by omega)]; rfl, trivial⟩, ⟨by simp only; omega, by simp only; omega, by simp; omega, ⟨by rw [put_len]; exact hPI.len, by rw [k3, hPI.all]; simp, fun a ha => by
      rcases List.mem_append.1 ha with ha | ha
      · exact k2 _ _ (hPI.has a ha)
      · simp at ha; rw [ha]; exact k1⟩, hT _ _ hT5⟩, by simp only; omega⟩
  · have g := ne_of_beq_false g
    have e : rqPutS x (l[i]).2.1 (l[i]).2.2.2.1 (l[i]).2.2.2.2 = x := by rw [rqPutS, if_neg g]
    rw [e] at hM
    exact ⟨(i + 1, x, pp, pc, put), ⟨rfl, rfl, rfl, rfl, rfl, by rw [w64 (by omega)]; rfl, trivial⟩, ⟨by simp only; omega, by simp only; omega, by simp only; omega, hPI, hM⟩, by simp only; omega⟩
end Go.Dav
