/- The statements on pools of objects: what their functions come to. -/
import Derived.Test.YtmnclkgicfkgnaaRPool07
import Derived.Test.YtmnclkgicfkgnaaLv
set_option linter.unusedSimpArgs false
set_option linter.unusedVariables false
namespace Go.Dav
open Go.Proofs

def tkN : Nat → List Nat
  | 0 => [0, 0]
  | n + 1 => takeS (tkN n)
theorem known_ok (w : World) : Calls Try.prog 7 #[] w fun e w' => e = .returned (.bool true) ∧ Upd no w w' := by
  refine u7 ?_
  rw [t7]
  refine ⟨(new_ok 2 w).mono ?_⟩
  rintro e w1 hh
  obtain ⟨_, b1, F1, rfl, hQ, hU, hF⟩ := hh.resolve_left (fun h => absurd (by omega) h.1)
  have hM : Mine w w1 (PlO b1) (tkN 0) := Mine.new (Upd.refl _ _) hU hQ hF
  clear hU hQ hF
  refine ⟨_, _, rfl, fun _ => ⟨fun g => by simp at g, fun _ => ?_⟩, fun g => by simp at g⟩
  refine ⟨WP_loop okProg (M := M7) (σ := Nat) (fun j => e7_1 (some ⟨b1, 0, none⟩) (j : Int)) (fun j w' => j ≤ 9 ∧ Mine w w' (PlO b1) (tkN j)) (fun j _ => 9 - j) 0 ⟨rfl, rfl, trivial⟩ ⟨by omega, hM⟩ ?_⟩
  clear hM
  rintro j w2 ⟨h1, hM⟩
  rw [t7_1]
  refine ⟨fun g => ?_, fun g => CutD.mk ?_⟩
  · have hj : j < 9 := by simp at g; omega
    obtain ⟨_, hA, hT⟩ := hM.turn
    refine ⟨(take_ok hA).mono ?_⟩
    rintro e w3 ⟨rfl, hU⟩
    replace hM := hT _ _ hU
    exact ⟨_, _, rfl, j + 1, ⟨rfl, by rw [w64 (by omega)]; rfl, trivial⟩, ⟨by omega, hM⟩, by omega⟩
  · have : j = 9 := by simp at g; omega
    subst this
    rw [t7_0]
    obtain ⟨_, hA, hT⟩ := hM.turn
    refine ⟨(give_ok hA _).mono ?_⟩
    rintro e w2 ⟨rfl, hU⟩
    replace hM := hT _ _ hU
    clear hA hT hU
    refine ⟨_, rfl, ?_⟩
    obtain ⟨_, hA, hT⟩ := hM.turn
    refine ⟨(take_ok hA).mono ?_⟩
    rintro e w2 ⟨rfl, hU⟩
    replace hM := hT _ _ hU
    clear hA hT hU
    refine ⟨_, _, rfl, ?_⟩
    obtain ⟨_, hA, hT⟩ := hM.turn
    refine ⟨(take_ok hA).mono ?_⟩
    rintro e w2 ⟨rfl, hU⟩
    replace hM := hT _ _ hU
    clear hA hT hU
    refine ⟨_, _, rfl, ?_⟩
    refine ⟨fun g1 => ?_, fun g1 => ?_⟩
    · refine ⟨fun g2 => ?_, fun g2 => ?_⟩
      · refine ⟨fun g3 => ?_, fun g3 => ?_⟩
        · refine ⟨fun g4 => ?_, fun g4 => ?_⟩
          · exact ⟨by kernel_rfl, hM.U⟩
          · exact absurd g4 (by decide +kernel)
        · exact absurd g3 (by decide +kernel)
      · exact absurd g2 (by decide +kernel)
    · exact absurd g1 (by decide +kernel)

theorem poolNil_ok {W : World} {n : Int} (_ : (Lit.int .i64 n).wf = true) : Calls Try.prog 5 #[.int .i64 n] W fun e w' => e = .returned (.bool true) ∧ Upd no W w' := by
  refine u5 ?_
  rw [t5]
  refine ⟨(takeNil_ok _).mono ?_⟩
  rintro e w2 ⟨rfl, rfl⟩
  refine ⟨_, _, rfl, ?_⟩
  refine ⟨(pagesNil_ok _).mono ?_⟩
  rintro e w2 ⟨rfl, rfl⟩
  refine ⟨_, _, _, rfl, ?_⟩
  refine ⟨fun g1 => ?_, fun g1 => ?_⟩
  · refine ⟨(giveNil_ok _ _).mono ?_⟩
    rintro e w2 ⟨rfl, rfl⟩
    refine ⟨_, rfl, ?_⟩
    refine ⟨fun g2 => ?_, fun g2 => ?_⟩
    · refine ⟨(outNil_ok _ _).mono ?_⟩
      rintro e w2 ⟨rfl, rfl⟩
      refine ⟨_, rfl, ?_⟩
      refine ⟨fun g3 => ?_, fun g3 => ?_⟩
      · refine ⟨(freeNil_ok _).mono ?_⟩
        rintro e w2 ⟨rfl, rfl⟩
        refine ⟨_, rfl, ?_⟩
        refine ⟨fun g4 => ?_, fun g4 => ?_⟩
        · refine ⟨fun g5 => ?_, fun g5 => ?_⟩
          · refine ⟨fun g6 => ?_, fun g6 => ?_⟩
            · refine ⟨fun g7 => ?_, fun g7 => ?_⟩
              · refine ⟨(known_ok _).mono ?_⟩
                rintro e w2 ⟨rfl, hU⟩
                refine ⟨_, rfl, ?_⟩
                exact ⟨rfl, hU⟩
              · exact absurd g7 (by decide)
            · exact absurd g6 (by decide)
          · exact absurd g5 (by decide)
        · exact absurd g4 (by decide)
      · exact absurd g3 (by decide)
    · exact absurd g2 (by decide)
  · exact absurd g1 (by decide)

theorem r4_3 {W w : World} {p : Option Addr} {n c : Nat} {b1 b2 : Nat} {i m : Int} {pg : List Nat} {B : Env → World → Prop}
    (hM : Mine W w (Star (PlO b1) (RpO b2)) (pg, pg))
    (hB : ∀ w', Mine W w' (Star (PlO b1) (RpO b2)) (pg, pg) → B (e4_1 p n c m (some ⟨b1, 0, none⟩) (some ⟨b2, 0, none⟩) (IntKind.wrap .i64 (i + 1))) w') :
    CutD Try.prog M4 c4_3 (e4_3 p n c m (some ⟨b1, 0, none⟩) (some ⟨b2, 0, none⟩) i) w (k4_3 B fun e w' => e = .returned (.bool true) ∧ Upd no W w') := by
  refine CutD.mk ?_
  rw [t4_3]
  obtain ⟨_, hA, hT⟩ := hM.left
  refine ⟨(pages_ok hA).mono ?_⟩
  rintro e w2 ⟨rfl, hU⟩
  replace hM := hM.upd hU
  clear hA hT hU
  refine ⟨_, _, _, rfl, ?_⟩
  obtain ⟨_, hA, hT⟩ := hM.right
  refine ⟨(rpages_ok hA).mono ?_⟩
  rintro e w2 ⟨rfl, rfl⟩
  clear hA hT
  refine ⟨_, _, _, rfl, ?_⟩
  refine ⟨fun g1 => ?_, fun g1 => ?_⟩
  · refine ⟨fun g2 => ?_, fun g2 => ?_⟩
    · refine ⟨fun g3 => ?_, fun g3 => ?_⟩
      · obtain ⟨_, hA, hT⟩ := hM.left
        refine ⟨(free_ok hA).mono ?_⟩
        rintro e w2 ⟨rfl, rfl⟩
        clear hA hT
        refine ⟨_, rfl, ?_⟩
        obtain ⟨_, hA, hT⟩ := hM.right
        refine ⟨(rfree_ok hA).mono ?_⟩
        rintro e w2 ⟨rfl, rfl⟩
        clear hA hT
        refine ⟨_, rfl, ?_⟩
        refine ⟨fun g4 => ?_, fun g4 => ?_⟩
        · obtain ⟨_, hA, hT⟩ := hM.left
          refine ⟨(out_ok hA _).mono ?_⟩
          rintro e w2 ⟨rfl, hU⟩
          replace hM := hM.upd hU
          clear hA hT hU
          refine ⟨_, rfl, ?_⟩
          obtain ⟨_, hA, hT⟩ := hM.right
          refine ⟨(rout_ok hA _).mono ?_⟩
          rintro e w2 ⟨rfl, rfl⟩
          clear hA hT
          refine ⟨_, rfl, ?_⟩
          refine ⟨fun g5 => ?_, fun g5 => ?_⟩
          · simp at g5
          · exact hB _ hM
        · simp at g4
      · simp at g3
    · simp at g2
  · simp at g1

theorem poolPlays_ok {W : World} {n : Int} {p : Option Addr} {l : List Int} {c : Nat} {m : Int} (_ : (Lit.int .i64 n).wf = true) (_ : ∀ x ∈ l, (Lit.int .i64 x).wf = true) (h : Cells W p (l.map (Value.int .i64))) (_ : l.length ≤ maxLen) (_ : (Lit.int .i64 m).wf = true) :
    Calls Try.prog 4 #[.int .i64 n, .slice p l.length c, .int .i64 m] W fun e w' => e = .returned (.bool true) ∧ Upd no W w' := by
  refine u4 ?_
  rw [t4]
  refine ⟨(new_ok n W).mono ?_⟩
  rintro e w1 (⟨hno, rfl, rfl⟩ | ⟨hyes, b1, F1, rfl, hQ, hU, hF⟩)
  · refine ⟨_, _, rfl, ⟨(rnew_ok n w1).mono ?_⟩⟩
    rintro e w2 (⟨_, rfl, rfl⟩ | ⟨h, _⟩)
    · refine ⟨_, _, rfl, fun _ => ⟨fun g => by simp at g, fun _ => ⟨fun _ => ⟨(known_ok _).mono ?_⟩, fun g => by simp at g⟩⟩, fun g => by simp at g⟩
      rintro e w3 ⟨rfl, hU⟩
      exact ⟨_, rfl, rfl, hU⟩
    · exact absurd h hno
  · have hM : Mine W w1 (PlO b1) (List.replicate n.toNat 0) := Mine.new (Upd.refl _ _) hU hQ hF
    refine ⟨_, _, rfl, ⟨(rnew_ok n w1).mono ?_⟩⟩
    rintro e w2 (⟨h, _⟩ | ⟨_, b2, F2, rfl, hQ2, hU2, hF2⟩)
    · exact absurd hyes h
    · replace hM : Mine W w2 (Star (PlO b1) (RpO b2)) (List.replicate n.toNat 0, List.replicate n.toNat 0) := hM.add hU2 hQ2 hF2
      clear hU hQ hF hU2 hQ2 hF2
      refine ⟨_, _, rfl, fun _ => ⟨fun g => by simp at g, fun _ => ⟨fun g => by simp at g, fun _ => ?_⟩⟩, fun g => by simp at g⟩
      refine ⟨WP_loop okProg (M := M4) (σ := Nat × List Nat) (fun x => e4_1 p l.length c m (some ⟨b1, 0, none⟩) (some ⟨b2, 0, none⟩) (x.1 : Int))
        (fun x w => x.1 ≤ l.length ∧ x.1 ≤ 200 ∧ Mine W w (Star (PlO b1) (RpO b2)) (x.2, x.2)) (fun x _ => l.length - x.1) (0, List.replicate n.toNat 0) ⟨rfl, rfl, rfl, rfl, rfl, trivial⟩ ⟨by simp, by simp, hM⟩ ?_⟩
      clear hM
      rintro ⟨i, pg⟩ w ⟨h1, h2, hM⟩
      simp only at h1 h2 hM ⊢
      have hgo : CutD Try.prog M4 c4_0 e4_0 w (k4_0 fun e w' => e = .returned (.bool true) ∧ Upd no W w') := by
        refine CutD.mk ?_
        rw [t4_0]
        refine ⟨(known_ok w).mono ?_⟩
        rintro e w' ⟨rfl, hU⟩
        exact ⟨_, rfl, rfl, hM.U.and hU⟩
      rw [t4_1]
      refine ⟨fun g1 => ?_, fun g1 => ?_⟩
      · refine ⟨fun g2 => ?_, fun g2 => ?_⟩
        · have hi : i < l.length := by simpa using g1
          have hi2 : i < 200 := by simp at g2; omega
          refine ⟨⟨by omega, by omega⟩, ?_⟩
          obtain ⟨_, ha, hc⟩ := (h.no hM.U).at1 hi
          cases ha
          refine ⟨_, rfl, ?_⟩
          refine ⟨_,  hc, ?_⟩
          refine ⟨fun g3 => ?_, fun g3 => ?_⟩
          · obtain ⟨_, hA, hT⟩ := hM.left
            refine ⟨(take_ok hA).mono ?_⟩
            rintro e w2 ⟨rfl, hU⟩
            replace hM := hT _ _ hU
            clear hA hT hU
            refine ⟨_, _, rfl, ?_⟩
            obtain ⟨_, hA, hT⟩ := hM.right
            refine ⟨(rtake_ok hA).mono ?_⟩
            rintro e w2 ⟨rfl, hU⟩
            replace hM := hT _ _ hU
            clear hA hT hU
            refine ⟨_, _, rfl, ?_⟩
            refine ⟨fun g4 => ?_, fun g4 => ?_⟩
            · refine ⟨fun g5 => ?_, fun g5 => ?_⟩
              · simp at g5
              · refine r4_3 hM fun w4 hM => ?_
                exact ⟨(i + 1, takeS pg), ⟨rfl, rfl, rfl, rfl, by rw [w64 (by omega)]; rfl, trivial⟩, ⟨by simp only; omega, by simp only; omega, hM⟩, by simp only; omega⟩
            · simp at g4
          · intro w1 q1 q2 q3 q4
            replace hM := hM.upd (Upd.same no q1 q2 q3 q4)
            refine ⟨⟨by omega, by omega⟩, ?_⟩
            obtain ⟨_, ha, hc⟩ := (h.no hM.U).at1 hi
            cases ha
            refine ⟨_, rfl, ?_⟩
            refine ⟨_,  hc, ?_⟩
            refine ⟨⟨by omega, by omega⟩, ?_⟩
            obtain ⟨_, ha, hc⟩ := (h.no hM.U).at1 hi
            cases ha
            refine ⟨_, rfl, ?_⟩
            refine ⟨_,  hc, ?_⟩
            obtain ⟨_, hA, hT⟩ := hM.left
            refine ⟨(give_ok hA _).mono ?_⟩
            rintro e w2 ⟨rfl, hU⟩
            replace hM := hT _ _ hU
            clear hA hT hU
            refine ⟨_, rfl, ?_⟩
            obtain ⟨_, ha, hc⟩ := (h.no hM.U).at1 hi
            cases ha
            refine ⟨hc, ?_⟩
            obtain ⟨_, hA, hT⟩ := hM.right
            refine ⟨(rgive_ok hA _).mono ?_⟩
            rintro e w2 ⟨rfl, hU⟩
            replace hM := hT _ _ hU
            clear hA hT hU
            refine ⟨_, rfl, ?_⟩
            refine ⟨fun g6 => ?_, fun g6 => ?_⟩
            · simp at g6
            · refine r4_3 hM fun w4 hM => ?_
              exact ⟨(i + 1, giveS pg l[i]), ⟨rfl, rfl, rfl, rfl, by rw [w64 (by omega)]; rfl, trivial⟩, ⟨by simp only; omega, by simp only; omega, hM⟩, by simp only; omega⟩
        · exact hgo
      · exact hgo

/-! ### PoolOnce -/

theorem count_set {pg : List Nat} {i : Nat} (hi : i < pg.length) (x : Nat) (p : Nat → Bool) : (pg.set i x).countP p + (if p pg[i] then 1 else 0) = pg.countP p + (if p x then 1 else 0) := by
  induction pg generalizing i with
  | nil => simp at hi
  | cons y l ih =>
    cases i with
    | zero => simp only [List.set_cons_zero, List.countP_cons, List.getElem_cons_zero]; omega
    | succ i =>
      have := ih (i := i) (by simpa using hi)
      simp only [List.set_cons_succ, List.countP_cons, List.getElem_cons_succ]
      omega
theorem take_none {pg : List Nat} (h : (takeE pg).2 ≠ 0) : empN pg = 0 ∧ parN pg = 0 := by
  unfold takeE at h
  cases hp : takeP pg with
  | some i => rw [hp] at h; simp at h
  | none =>
    unfold takeP at hp
    cases h1 : pg.findIdx? p1 with
    | some i => rw [h1] at hp; cases hp
    | none =>
      rw [h1] at hp
      simp only at hp
      rw [List.findIdx?_eq_none_iff] at h1 hp
      exact ⟨List.countP_eq_zero.2 fun x hx => by simp [hp x hx], List.countP_eq_zero.2 fun x hx => by simp [h1 x hx]⟩
/-- What is known of an object that is taken. -/
theorem take_some {pg : List Nat} (hp : PgOk pg) (h : (takeE pg).2 = 0) : ∃ i : Nat, ∃ hi : i < pg.length, z8 pg[i] < 8 ∧ (takeE pg).1 = ((8 * i + z8 pg[i] + 1 : Nat) : Int) ∧ outE pg (takeE pg).1 = false ∧ outE (takeS pg) (takeE pg).1 = true ∧ (empN (takeS pg) < empN pg → parN pg = 0) := by
  unfold takeE at h
  cases hP : takeP pg with
  | none => rw [hP] at h; simp at h
  | some i =>
    obtain ⟨hi, hne⟩ := takeP_at hP
    have hx := hp.at hi
    obtain ⟨o1, o2, o3, o4⟩ := one8 _ hx
    obtain ⟨k1, k2, k3⟩ := o4 hne
    have o := ops8 _ hx _ k1
    have hg : pg.getD i 0 = pg[i] := by simp [hi]
    have e1 : (takeE pg).1 = ((8 * i + z8 pg[i] + 1 : Nat) : Int) := by simp only [takeE, hP, hg]
    have e2 : takeS pg = pg.set i (ior pg[i] (z8 pg[i])) := by simp only [takeS, hP, hg]
    refine ⟨i, hi, k1, e1, ?_, ?_, ?_⟩
    · rw [e1, out_of hi k1, k2]
    · rw [e1, e2, out_of (by simpa using hi) k1]
      simp only [List.getElem_set_self]
      have := congrArg (fun l => l[z8 pg[i]]?) o.2.2.2.2.2.1
      simp [bitsB, k1] at this
      exact this
    · intro hlt
      have hc := count_set hi (ior pg[i] (z8 pg[i])) p2
      rw [← e2] at hc
      unfold empN at hlt
      have hp2 : p2 pg[i] = true := by
        cases h2 : p2 pg[i] with
        | true => rfl
        | false => rw [h2] at hc; simp at hc; omega
      unfold takeP at hP
      cases h1 : pg.findIdx? p1 with
      | some j =>
        rw [h1] at hP
        simp only [Option.some.injEq] at hP
        subst hP
        obtain ⟨_, h3⟩ := fi_at h1
        simp [p1] at h3
        simp [p2] at hp2
        omega
      | none =>
        rw [List.findIdx?_eq_none_iff] at h1
        exact List.countP_eq_zero.2 fun x hx => by simp [h1 x hx]

theorem emp_le (pg : List Nat) (p : Nat → Bool) (h : pg.length ≤ 12) : pg.countP p ≤ 12 := Nat.le_trans List.countP_le_length h
def wasL (pg : List Nat) (k : Nat) : List Bool := (List.range k).map (fun (k : Nat) => outE pg (k : Int))
theorem wasL_len (pg : List Nat) (k : Nat) : (wasL pg k).length = k := by simp [wasL]
theorem wasL_succ (pg : List Nat) (k : Nat) : wasL pg (k + 1) = wasL pg k ++ [outE pg (k : Int)] := by simp [wasL, List.range_succ]
theorem take_len (pg : List Nat) : (takeS pg).length = pg.length := by unfold takeS; split <;> simp
theorem give_len (pg : List Nat) (x : Int) : (giveS pg x).length = pg.length := by unfold giveS; split <;> simp

theorem once3 {W w : World} {p wp : Option Addr} {n c wc : Nat} {b1 : Nat} {i : Int} {pg : List Nat} {B : Env → World → Prop}
    (hM : Mine W w (Star (PlO b1) (Lv 4 Value.bool)) (pg, (wp, wc, wasL pg (8 * pg.length + 1))))
    (hB : ∀ w' pg', pg'.length = pg.length → Mine W w' (PlO b1) pg' → B (e3_1 (pg.length : Int) p n c (some ⟨b1, 0, none⟩) (IntKind.wrap .i64 (i + 1))) w') :
    CutD Try.prog M3 c3_3 (e3_3 (pg.length : Int) p n c (some ⟨b1, 0, none⟩) i wp (8 * pg.length + 1) wc) w (k3_3 B fun e w' => e = .returned (.bool true) ∧ Upd no W w') := by
  refine CutD.mk ?_
  rw [t3_3]
  obtain ⟨_, hA, hT⟩ := hM.left
  have hp := hA.2
  have hl := hp.len
  simp only at hp hl
  have m0 : empN pg ≤ 12 := emp_le pg p2 hl.2
  have m1 : parN pg ≤ 12 := emp_le pg p1 hl.2
  refine ⟨(pages_ok hA).mono ?_⟩
  rintro e w2 ⟨rfl, hU⟩
  replace hM := hM.upd hU
  clear hA hT hU
  obtain ⟨_, hA, hT⟩ := hM.left
  refine ⟨_, _, _, rfl, ⟨(take_ok hA).mono ?_⟩⟩
  rintro e w3 ⟨rfl, hU⟩
  replace hM := hT _ _ hU
  clear hA hT hU
  simp only at hM ⊢
  refine ⟨_, _, rfl, fun g => ⟨fun g2 => ?_, fun g2 => ?_⟩, fun g => ?_⟩
  · obtain ⟨k1, k2⟩ := take_none (pg := pg) (by simpa using g)
    rw [k1, k2] at g2
    exact absurd g2 (by decide)
  · exact hB _ _ (take_len pg) hM.drop
  · have g0 : (takeE pg).2 = 0 := by simpa using g
    obtain ⟨i0, hi, k1, e1, k2, k3, k4⟩ := take_some hp g0
    obtain ⟨_, hA, hT⟩ := hM.left
    refine ⟨(pages_ok hA).mono ?_⟩
    rintro e w4 ⟨rfl, hU⟩
    replace hM := hM.upd hU
    clear hA hT hU
    have hw : 8 * i0 + z8 pg[i0] + 1 < (wasL pg (8 * pg.length + 1)).length := by rw [wasL_len]; omega
    obtain ⟨_, hA, hT⟩ := hM.right
    obtain ⟨a, ha, hv⟩ := hA.at hw
    clear hA hT
    have hv' : (wasL pg (8 * pg.length + 1))[8 * i0 + z8 pg[i0] + 1] = false := by
      simp only [wasL, List.getElem_map, List.getElem_range]
      rw [← e1]; exact k2
    rw [hv'] at hv
    rw [e1] at k3 ⊢
    rw [w64 (x := 8 * (pg.length : Int)) (by omega)]
    refine ⟨_, _, _, rfl, fun _ => ⟨fun _ => ⟨⟨by omega, by omega⟩, a, ha, _, hv, fun _ => ?_, fun g => by cases g⟩, fun g => absurd (of_decide_eq_true g) (by omega)⟩, fun g => absurd (of_decide_eq_true g) (by omega)⟩
    obtain ⟨_, hA, hT⟩ := hM.left
    refine ⟨(out_ok hA _).mono ?_⟩
    rintro e w5 ⟨rfl, hU⟩
    replace hM := hM.upd hU
    clear hA hT hU
    rw [k3]
    refine ⟨_, rfl, fun _ => ⟨fun g => ⟨fun g2 => ?_, fun g2 => ?_⟩, fun g => ?_⟩, fun g => by cases g⟩
    · have := k4 (by have := of_decide_eq_true g; simp only at this; omega)
      rw [this] at g2
      exact absurd g2 (by decide)
    · exact hB _ _ (take_len pg) hM.drop
    · exact hB _ _ (take_len pg) hM.drop

theorem poolOnce_ok {W : World} {n : Int} {p : Option Addr} {l : List Int} {c : Nat} (_ : (Lit.int .i64 n).wf = true) (_ : ∀ x ∈ l, (Lit.int .i64 x).wf = true) (h : Cells W p (l.map (Value.int .i64))) (_ : l.length ≤ maxLen) :
    Calls Try.prog 3 #[.int .i64 n, .slice p l.length c] W fun e w' => e = .returned (.bool true) ∧ Upd no W w' := by
  refine u3 ?_
  rw [t3]
  refine ⟨(new_ok n W).mono ?_⟩
  rintro e w1 (⟨hno, rfl, rfl⟩ | ⟨hyes, b1, F1, rfl, hQ, hU, hF⟩)
  · have hk : Call Try.prog 7 [] w1 fun e w' => ∃ b, e = .returned (.bool b) ∧ Ending.returned (.bool b) = .returned (.bool true) ∧ Upd no w1 w' := ⟨(known_ok w1).mono fun e w' ⟨h1, h2⟩ => ⟨_, h1, rfl, h2⟩⟩
    refine ⟨_, _, rfl, fun _ => ⟨fun g => ⟨fun g2 => hk, fun g2 => ?_⟩, fun g => hk⟩, fun g => by simp at g⟩
    simp at g g2; omega
  · have hM : Mine W w1 (PlO b1) (List.replicate n.toNat 0) := Mine.new (Upd.refl _ _) hU hQ hF
    clear hU hQ hF
    refine ⟨_, _, rfl, fun g => by simp at g, fun _ => ?_⟩
    refine ⟨WP_loop okProg (M := M3) (σ := Nat × List Nat) (fun x => e3_1 n p l.length c (some ⟨b1, 0, none⟩) (x.1 : Int))
      (fun x w => x.1 ≤ l.length ∧ x.1 ≤ 200 ∧ (x.2.length : Int) = n ∧ Mine W w (PlO b1) x.2) (fun x _ => l.length - x.1) (0, List.replicate n.toNat 0) ⟨rfl, rfl, rfl, rfl, trivial⟩ ⟨by simp, by simp, by simp; omega, hM⟩ ?_⟩
    clear hM
    rintro ⟨i, pg⟩ w ⟨h1, h2, hn, hM⟩
    simp only at h1 h2 hM hn ⊢
    have hgo : CutD Try.prog M3 c3_0 e3_0 w (k3_0 fun e w' => e = .returned (.bool true) ∧ Upd no W w') := by
      refine CutD.mk ?_
      rw [t3_0]
      refine ⟨(known_ok w).mono ?_⟩
      rintro e w' ⟨rfl, hU⟩
      exact ⟨_, rfl, rfl, hM.U.and hU⟩
    rw [t3_1]
    refine ⟨fun g1 => ⟨fun g2 => ?_, fun g2 => hgo⟩, fun g1 => hgo⟩
    have hi : i < l.length := by simpa using g1
    have hi2 : i < 200 := by simp at g2; omega
    have go : ∀ w' pg', pg'.length = pg.length → Mine W w' (PlO b1) pg' → ∃ s : Nat × List Nat, CoversL (e3_1 n p l.length c (some ⟨b1, 0, none⟩) (IntKind.wrap .i64 ((i : Int) + 1))) (e3_1 n p l.length c (some ⟨b1, 0, none⟩) (s.1 : Int)) ∧ (s.1 ≤ l.length ∧ s.1 ≤ 200 ∧ (s.2.length : Int) = n ∧ Mine W w' (PlO b1) s.2) ∧ l.length - s.1 < l.length - i := fun w' pg' hl hM =>
      ⟨(i + 1, pg'), ⟨rfl, rfl, rfl, by rw [w64 (by omega)]; rfl, trivial⟩, ⟨by simp only; omega, by simp only; omega, by simp only; omega, hM⟩, by simp only; omega⟩
    obtain ⟨a, ha, hc⟩ := (h.no hM.U).at1 hi
    refine ⟨⟨by omega, by omega⟩, a, ha, _, hc, fun g3 => ⟨⟨by omega, by omega⟩, a, ha, _, hc, ?_⟩, fun g3 => ?_⟩
    · obtain ⟨_, hA, hT⟩ := hM.turn
      refine ⟨(give_ok hA _).mono ?_⟩
      rintro e w2 ⟨rfl, hU⟩
      exact ⟨_, rfl, go _ _ (give_len _ _) (hT _ _ hU)⟩
    · subst hn
      replace hM : Mine W w (Star (PlO b1) (Lv 4 Value.bool)) (pg, (none, 0, [])) := hM.add (Upd.refl _ _) (Lv.nil _ _) (fun _ h => h.elim)
      have hl := hM.left.choose_spec.1.2.len
      simp only at hl
      refine ⟨WP_loop okProg (M := M3) (σ := Nat × Option Addr × Nat) (fun x => e3_4 (pg.length : Int) p l.length c (some ⟨b1, 0, none⟩) (i : Int) x.2.1 x.1 x.2.2 (x.1 : Int))
        (fun x w => x.1 ≤ 8 * pg.length + 1 ∧ Mine W w (Star (PlO b1) (Lv 4 Value.bool)) (pg, (x.2.1, x.2.2, wasL pg x.1))) (fun x _ => 8 * pg.length + 1 - x.1) (0, none, 0) ⟨rfl, rfl, rfl, rfl, rfl, rfl, trivial⟩ ⟨by omega, (by simpa [wasL] using hM)⟩ ?_⟩
      clear hM
      rintro ⟨k, wp, wc⟩ w2 ⟨k1, hM⟩
      simp only at k1 hM ⊢
      rw [t3_4, w64 (x := 8 * (pg.length : Int)) (by omega)]
      refine ⟨fun g => ?_, fun g => ?_⟩
      · have hk : k < 8 * pg.length + 1 := by simp at g; omega
        obtain ⟨_, hA, hT⟩ := hM.left
        refine ⟨(out_ok hA _).mono ?_⟩
        rintro e w3 ⟨rfl, hU⟩
        replace hM := hM.upd hU
        clear hA hT hU
        refine ⟨_, rfl, ⟨fun w4 hN => ?_⟩⟩
        obtain ⟨_, hA, hT⟩ := hM.right
        obtain ⟨p', c', w5, hr, hU⟩ := Lv.push elB (fun _ => rfl) hA (by rw [wasL_len]; omega) (by rw [wasL_len]; omega) hN 29
        replace hM := hT _ _ hU
        rw [wasL_len, ← wasL_succ, wasL_len] at hr
        rw [← wasL_succ] at hM
        exact ⟨p', _, c', w5, hr, (k + 1, p', c'), ⟨rfl, rfl, rfl, rfl, rfl, by rw [w64 (by omega)]; rfl, trivial⟩, ⟨by simp only; omega, hM⟩, by simp only; omega⟩
      · have : k = 8 * pg.length + 1 := by simp at g; omega
        subst this
        exact once3 hM go
end Go.Dav
