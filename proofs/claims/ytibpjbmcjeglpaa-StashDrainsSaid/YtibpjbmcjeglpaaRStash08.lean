/- What the document's functions of the stash come to. -/
import Derived.Test.YtibpjbmcjeglpaaStash08
import Derived.Test.YtibpjbmcjeglpaaRPool08
set_option linter.unusedVariables false
set_option linter.unusedSimpArgs false
set_option linter.unusedSectionVars false
namespace Go.Dav
open Go.Proofs

def rsE (b2 n : Nat) (p : Option Addr) (m c : Nat) : List Value := [.pointer (some ⟨b2, 0, none⟩), .slice p m c]
abbrev RsO (b : Nat) : Ob KS := KpO RpO 41 35 3 rsE b
section
variable {w : World} {F : Fp} {b : Nat} {x : KS}
theorem rlen (h : RsO b w F x) : 1 ≤ x.1.length ∧ x.1.length ≤ 12 := by
  obtain ⟨b2, F1, ⟨_, _, h1⟩, _⟩ := h.ptr
  exact h1.len

theorem ris_ok (h : RsO b w F x) (cpu : Int) : Calls Try.prog 18 #[.pointer (some ⟨b, 0, none⟩), .int .i64 cpu] w fun e w' => e = .returned (.bool (decide (inC x cpu))) ∧ w' = w := by
  refine u18 ?_
  rw [t18]
  obtain ⟨b2, F1, _, ⟨p, c, hB⟩, _⟩ := h.ptr
  refine ⟨fun g => ⟨_, rfl, _, _, _, hB.cell rfl, ?_, rfl⟩, fun g => ⟨?_, rfl⟩⟩
  · have : decide (cpu < (x.2.length : Int)) = decide (inC x cpu) := decide_eq_decide.2 ⟨fun h => ⟨by simp at g; omega, h⟩, fun h => h.2⟩
    rw [this]
  · rw [decide_eq_false]; unfold inC; simp at g; omega

theorem rkept_ok (h : RsO b w F x) (v : Int) : Calls Try.prog 34 #[.pointer (some ⟨b, 0, none⟩), .int .i64 v] w fun e w' => e = .returned (.bool (keptB x.2 v)) ∧ w' = w := by
  refine u34 ?_
  rw [t34]
  obtain ⟨b2, F1, _, hl, p, c, hB, hR⟩ := h.rows
  refine ⟨WP_loop okProg (M := M34) (σ := Nat) (fun j => e34_1 (some ⟨b, 0, none⟩) v (j : Int)) (fun j w' => j ≤ x.2.length ∧ keptB (x.2.take j) v = false ∧ w' = w) (fun j _ => x.2.length - j) 0 ⟨rfl, rfl, rfl, trivial⟩ ⟨by omega, rfl, rfl⟩ ?_⟩
  rintro j w1 ⟨j1, j2, rfl⟩
  rw [t34_1]
  refine ⟨_, rfl, _, _, _, hB.cell rfl, fun g => ?_, fun g => ?_⟩
  · have hj : j < x.2.length := by simp at g; omega
    obtain ⟨a, q, d, ha, hc, hC, h4⟩ := hR j hj
    refine ⟨_, rfl, _, _, _, hB.cell rfl, ⟨by omega, by omega⟩, a, ha, _, _, _, hc, ⟨(fHas_ok hC (by omega) v).mono ?_⟩⟩
    rintro e w2 ⟨rfl, rfl⟩
    refine ⟨_, rfl, fun g1 => ⟨?_, rfl⟩, fun g1 => ⟨j + 1, ⟨rfl, rfl, by rw [w64 (by unfold maxLen at *; omega)]; rfl, trivial⟩, ⟨by omega, ?_, rfl⟩, by omega⟩⟩
    · have : keptB x.2 v = true := by
        unfold keptB
        rw [List.any_eq_true]
        exact ⟨_, List.getElem_mem hj, g1⟩
      rw [this]
    · rw [List.take_succ_eq_append_getElem hj]
      unfold keptB at j2 ⊢
      rw [List.any_append, j2]
      simpa using g1
  · have : j = x.2.length := by simp at g; omega
    subst this
    rw [List.take_length] at j2
    exact ⟨by rw [j2], rfl⟩

theorem rhas_ok (h : RsO b w F x) (v : Int) : Calls Try.prog 17 #[.pointer (some ⟨b, 0, none⟩), .int .i64 v] w fun e w' => e = .returned (.bool (hasE x v)) ∧ w' = w := by
  refine u17 ?_
  rw [t17]
  obtain ⟨b2, F1, h1, ⟨p, c, hB⟩, _⟩ := h.ptr
  refine ⟨_, rfl, _, hB.cell rfl, ⟨(rout_ok h1 v).mono ?_⟩⟩
  rintro e w1 ⟨rfl, rfl⟩
  refine ⟨_, rfl, fun g => ⟨(rkept_ok h v).mono ?_⟩, fun g => ⟨by simp [hasE, g], rfl⟩⟩
  rintro e w2 ⟨rfl, rfl⟩
  exact ⟨_, rfl, by simp [hasE, g], rfl⟩

theorem routs_ok (h : RsO b w F x) : Calls Try.prog 13 #[.pointer (some ⟨b, 0, none⟩)] w fun e w' => ∃ p c, e = .returned (.slice p (outsE x).length c) ∧ Cells w' p ((outsE x).map (Value.int .i64)) ∧ Upd no w w' := by
  have hl := rlen h
  refine u13 ?_
  rw [t13]
  refine ⟨WP_loop okProg (M := M13) (σ := Nat × Option Addr × Nat) (fun s => e13_1 (some ⟨b, 0, none⟩) s.2.1 (outsN x s.1).length s.2.2 ((s.1 + 1 : Nat) : Int))
    (fun s w' => s.1 ≤ 8 * x.1.length ∧ Loc w w' 3 s.2.1 s.2.2 (outsN x s.1)) (fun s _ => 8 * x.1.length - s.1) (0, none, 0) ⟨rfl, rfl, rfl, trivial⟩ ⟨by simp, Loc.nil (Upd.refl _ _) _⟩ ?_⟩
  rintro ⟨j, p, c⟩ w1 ⟨j1, hL⟩
  simp only at j1 hL ⊢
  have h1 : RsO b w1 F x := Frame.kp.upd h hL.U (fun _ _ h => h)
  obtain ⟨b2, F1, hP, ⟨p1, c1, hB⟩, _⟩ := h1.ptr
  obtain ⟨p2, c2, hc2, _⟩ := hP.at
  rw [t13_1]
  refine ⟨_, rfl, _, hB.cell rfl, _, rfl, _, _, _, hc2, fun g => ⟨(rhas_ok h1 _).mono ?_⟩, fun g => ?_⟩
  · have hj : j < 8 * x.1.length := by simp at g; omega
    have ol := outsN_len x j
    have os := outsN_succ x j
    have ej : IntKind.wrap .i64 (((j + 1 : Nat) : Int) + 1) = ((j + 1 + 1 : Nat) : Int) := by rw [w64 (by omega)]; omega
    rintro e w2 ⟨rfl, rfl⟩
    refine ⟨_, rfl, fun g1 => ⟨fun w3 hN => ?_⟩, fun g1 => ?_⟩
    · rw [if_pos (show isOut x (j + 1) = true from g1)] at os
      obtain ⟨p', c', w4, hr, hL3⟩ := hL.push elI (by omega) hN 35
      exact ⟨p', _, c', w4, hr, (j + 1, p', c'), ⟨rfl, by rw [os]; rfl, by rw [ej]; rfl, trivial⟩, ⟨by simp only; omega, by rw [os]; exact hL3⟩, by simp only; omega⟩
    · rw [if_neg (show ¬ isOut x (j + 1) = true from by unfold isOut; rw [g1]; simp)] at os
      exact ⟨(j + 1, p, c), ⟨rfl, by rw [os]; rfl, by rw [ej]; rfl, trivial⟩, ⟨by simp only; omega, by rw [os]; exact hL⟩, by simp only; omega⟩
  · have : j = 8 * x.1.length := by simp at g; omega
    subst this
    exact ⟨p, c, rfl, hL.S.cells, hL.U⟩

theorem rdrain0 (h : RsO b w F x) {i : Nat} (hi : i < x.2.length) (n : Int) {K : World → Prop} (hK : ∀ w', Turn (RsO b) w w' F (x.1, x.2.set i []) → K w') :
    CutD Try.prog M27 c27_0 (e27_0 (some ⟨b, 0, none⟩) (i : Int) n) w (k27_0 fun e w' => e = .returned (.tuple #[.int .i64 n, .int .i64 0]) ∧ K w') := by
  refine CutD.mk ?_
  rw [t27_0]
  obtain ⟨b2, F1, G, a, c0, p, c, h1, hR, hd, ht, hp⟩ := h.row hi
  obtain ⟨F2, hA⟩ := hR.open hi
  refine ⟨_, rfl, _, _, _, hA.blk0.cell rfl, ⟨by omega, by omega⟩, a, rfl, ?_⟩
  exact hA.put _ _ _ _ hA.ls.empty _ fun w2 h2 => ⟨rfl, hK _ (hp _ _ (set_le h.2 i (by simp)) h2)⟩

theorem rdrain_ok (h : RsO b w F x) (cpu : Int) : Calls Try.prog 27 #[.pointer (some ⟨b, 0, none⟩), .int .i64 cpu] w fun e w' => e = .returned (.tuple #[.int .i64 (drainE x cpu).1, .int .i64 (drainE x cpu).2]) ∧ Turn (RsO b) w w' F (drainS x cpu) := by
  refine u27 ?_
  rw [t27]
  refine ⟨(ris_ok h cpu).mono ?_⟩
  rintro e w1 ⟨rfl, rfl⟩
  refine ⟨_, rfl, fun g => ?_, fun g => ?_⟩
  · have hn : ¬ inC x cpu := by simpa using g
    rw [drainE, drainS, if_neg hn, if_neg hn]
    exact ⟨rfl, Turn.same h⟩
  · have hc : inC x cpu := by simpa using g
    rw [drainE, drainS, if_pos hc, if_pos hc]
    obtain ⟨i, hi, rfl⟩ := inC_at hc
    obtain ⟨b2, F1, G, a, c0, p, c, h1, hR, hd, ht, hp⟩ := h.row hi
    obtain ⟨F2, hA⟩ := hR.open hi
    have h4 : x.2[i].length ≤ 4 := h.2 _ (List.getElem_mem hi)
    rw [rowC_at hi]
    refine ⟨_, rfl, _, _, _, hA.blk0.cell rfl, ⟨by omega, by omega⟩, a, rfl, _, _, _, hA.cell0, ?_⟩
    clear hA hR ht hp hd h1
    refine ⟨WP_loop okProg (M := M27) (σ := Nat) (fun j => e27_1 (some ⟨b, 0, none⟩) (i : Int) (x.2[i].length : Int) (j : Int)) (fun j w' => j ≤ x.2[i].length ∧ Turn (RsO b) w1 w' F (gives x.1 (x.2[i].take j), x.2)) (fun j _ => x.2[i].length - j) 0 ⟨rfl, rfl, rfl, rfl, trivial⟩ ⟨by omega, Turn.same h⟩ ?_⟩
    rintro j w2 ⟨j1, F', q1, q2, q3⟩
    rw [t27_1]
    refine ⟨fun g1 w3 z1 z2 z3 z4 => ?_, fun g1 => ?_⟩
    · have hj : j < x.2[i].length := by simp at g1; omega
      have hS := Upd.same no z1 z2 z3 z4
      replace q1 : RsO b w3 F' _ := Frame.kp.upd q1 hS (fun _ _ h => h)
      replace q2 := q2.and hS.none
      obtain ⟨b2, F1, G, a, c0, p, c, h1, hR, hd, ht, hp⟩ := q1.row (i := i) hi
      obtain ⟨F2, hA⟩ := hR.open hi
      obtain ⟨a', ha', hc'⟩ := hA.cells.at1 hj
      refine ⟨_, rfl, _, hA.blk0.cell rfl, _, rfl, _, _, _, hA.blk0.cell rfl, ⟨by omega, by show (i : Int) < (x.2.length : Int); omega⟩, a, rfl, _, _, _, hA.cell0, ⟨by omega, by show (j : Int) < (x.2[i].length : Int); omega⟩, a', ha', _, hc', ⟨(rgive_ok h1 _).mono ?_⟩⟩
      rintro e w4 ⟨rfl, hU⟩
      have hT := ht _ _ (give_len _ _) hU
      refine ⟨_, rfl, j + 1, ⟨rfl, rfl, rfl, by rw [w64 (by omega)]; rfl, trivial⟩, ⟨by omega, ?_⟩, by omega⟩
      rw [gives_succ _ hj]
      exact Turn.next (w1 := w3) q1 q2 q3 hT
    · have : j = x.2[i].length := by simp at g1; omega
      subst this
      rw [List.take_length] at q1
      exact rdrain0 q1 hi _ fun w4 hT => Turn.next q1 q2 q3 hT

theorem rgive0 (h : RsO b w F x) {i : Nat} (hi : i < x.2.length) (hl : x.2[i].length ≤ 3) (v : Int) {K : World → Prop} (hK : ∀ w', Turn (RsO b) w w' F (x.1, x.2.set i (x.2[i] ++ [v])) → K w') :
    CutD Try.prog M26 c26_0 (e26_0 (some ⟨b, 0, none⟩) (i : Int) v) w (k26_0 fun e w' => e = .returned (.int .i64 0) ∧ K w') := by
  refine CutD.mk ?_
  rw [t26_0]
  intro w1 z1 z2 z3 z4
  have hS := Upd.same no z1 z2 z3 z4
  have h : RsO b w1 F x := Frame.kp.upd h hS (fun _ _ h => h)
  obtain ⟨b2, F1, G, a, c0, p, c, h1, hR, hd, ht, hp⟩ := h.row hi
  obtain ⟨F2, hA⟩ := hR.open hi
  refine ⟨_, rfl, _, _, _, hA.blk0.cell rfl, _, rfl, _, _, _, hA.blk0.cell rfl, ⟨by omega, by omega⟩, a, rfl, _, _, _, hA.cell0, ⟨fun w4 hN => ?_⟩⟩
  have hN' : Upd F2 w1 w4 := (hN.upd no).none
  obtain ⟨p', c', w5, hr, hT⟩ := Ls.push elI hA.ls (by omega) hN 35
  obtain ⟨_, _, hU5, _⟩ := id hT
  refine ⟨hA.cell _ hN', (hA.blk _ hN').cell rfl, (hA.blk _ hN').cell rfl, p', _, c', w5, hr, (hA.blk _ hU5).cell rfl, ⟨by omega, by omega⟩, a, rfl, ?_⟩
  refine hA.put _ _ _ _ hT _ fun w6 h6 => ⟨rfl, hK _ ?_⟩
  exact Turn.next h hS.none (fun _ h => .inl h) (hp _ _ (set_le h.2 i (by simp; omega)) h6)

theorem rsgive_ok (h : RsO b w F x) (cpu v : Int) : Calls Try.prog 26 #[.pointer (some ⟨b, 0, none⟩), .int .i64 cpu, .int .i64 v] w fun e w' => e = .returned (.int .i64 (sgiveE x cpu v)) ∧ Turn (RsO b) w w' F (sgiveS x cpu v) := by
  refine u26 ?_
  rw [t26]
  refine ⟨(ris_ok h cpu).mono ?_⟩
  rintro e w1 ⟨rfl, rfl⟩
  refine ⟨_, rfl, fun g => ?_, fun g => ?_⟩
  · have hn : ¬ inC x cpu := by simpa using g
    rw [sgiveE, sgiveS, if_neg hn, if_neg (fun h => hn h.1)]
    exact ⟨rfl, Turn.same h⟩
  · have hc : inC x cpu := by simpa using g
    refine ⟨(rhas_ok h v).mono ?_⟩
    rintro e w2 ⟨rfl, rfl⟩
    refine ⟨_, rfl, fun g1 => ?_, fun g1 => ?_⟩
    · have g1 : ¬ hasE x v = true := by simpa using g1
      rw [sgiveE, sgiveS, if_pos hc, if_neg g1, if_neg (fun h => g1 h.2)]
      exact ⟨rfl, Turn.same h⟩
    · have g1 : hasE x v = true := by simpa using g1
      rw [sgiveE, sgiveS, if_pos hc, if_pos g1, if_pos ⟨hc, g1⟩]
      obtain ⟨i, hi, rfl⟩ := inC_at hc
      obtain ⟨b2, F1, G, a, c0, p, c, h1, hR, hd, ht, hp⟩ := h.row hi
      obtain ⟨F2, hA⟩ := hR.open hi
      have h4 : x.2[i].length ≤ 4 := h.2 _ (List.getElem_mem hi)
      rw [rowC_at hi]
      refine ⟨_, rfl, _, _, _, hA.blk0.cell rfl, ⟨by omega, by omega⟩, a, rfl, _, _, _, hA.cell0, fun g2 w3 z1 z2 z3 z4 => ?_, fun g2 => ?_⟩
      · have g2 : 4 ≤ x.2[i].length := by simp at g2; omega
        have hb : backS (x.1, x.2[i]) = (gives x.1 (x.2[i].take 2), x.2[i].drop 2) := by simp only [backS]; rw [if_pos g2]
        rw [hb]
        clear hA hR ht hp hd h1
        have hS := Upd.same no z1 z2 z3 z4
        have h3 : RsO b w3 F x := Frame.kp.upd h hS (fun _ _ h => h)
        obtain ⟨b2, F1, G, a, c0, p, c, h1, hR, hd, ht, hp⟩ := h3.row hi
        obtain ⟨F2, hA⟩ := hR.open hi
        obtain ⟨a', ha', hc'⟩ := hA.cells.at1 (i := 0) (by omega)
        refine ⟨_, rfl, _, hA.blk0.cell rfl, _, rfl, _, _, _, hA.blk0.cell rfl, ⟨by omega, by omega⟩, a, rfl, _, _, _, hA.cell0, ⟨by omega, by omega⟩, a', ha', _, hc', ⟨(rgive_ok h1 _).mono ?_⟩⟩
        rintro e w4 ⟨rfl, hU⟩
        refine ⟨_, rfl, fun w5 z1 z2 z3 z4 => ?_⟩
        obtain ⟨F3, q1, q2, q3⟩ := ht _ _ (give_len _ _) hU
        clear hA hR ht hp hd h1 hU hc' ha'
        have hS5 := Upd.same no z1 z2 z3 z4
        replace q1 : RsO b w5 F3 _ := Frame.kp.upd q1 hS5 (fun _ _ h => h)
        replace q2 := q2.and hS5.none
        obtain ⟨b2, F1, G, a, c0, p, c, h1, hR, hd, ht, hp⟩ := q1.row (i := i) hi
        obtain ⟨F2, hA⟩ := hR.open hi
        obtain ⟨a', ha', hc'⟩ := hA.cells.at1 (i := 1) (by show 1 < x.2[i].length; omega)
        refine ⟨_, rfl, _, hA.blk0.cell rfl, _, rfl, _, _, _, hA.blk0.cell rfl, ⟨by omega, by show (i : Int) < (x.2.length : Int); omega⟩, a, rfl, _, _, _, hA.cell0, ⟨by omega, by show (1 : Int) < (x.2[i].length : Int); omega⟩, a', ha', _, hc', ⟨(rgive_ok h1 _).mono ?_⟩⟩
        rintro e w6 ⟨rfl, hU⟩
        refine ⟨_, rfl, fun w7 z1 z2 z3 z4 => ?_⟩
        obtain ⟨F4, r1, r2, r3⟩ := ht _ _ (give_len _ _) hU
        clear hA hR ht hp hd h1 hU hc' ha'
        have hS7 := Upd.same no z1 z2 z3 z4
        replace r1 : RsO b w7 F4 _ := Frame.kp.upd r1 hS7 (fun _ _ h => h)
        replace r2 := r2.and hS7.none
        obtain ⟨b2, F1, G, a, c0, p, c, h1, hR, hd, ht, hp⟩ := r1.row (i := i) hi
        obtain ⟨F2, hA⟩ := hR.open hi
        refine ⟨_, rfl, _, _, _, hA.blk0.cell rfl, _, rfl, _, _, _, hA.blk0.cell rfl, ⟨by omega, by show (i : Int) < (x.2.length : Int); omega⟩, a, rfl, _, _, _, hA.cell0, ⟨by omega, by show (2 : Int) ≤ (x.2[i].length : Int); omega⟩, ⟨by omega, by show (i : Int) < (x.2.length : Int); omega⟩, a, rfl, ?_⟩
        have hT := hA.ls.behind (k := 2) (by show 2 ≤ x.2[i].length; omega)
        have hput := hA.put _ _ _ _ hT (fun w8 => CutD Try.prog M26 c26_0 (e26_0 (some ⟨b, 0, none⟩) (i : Int) v) w8 (k26_0 fun e w' => e = .returned (.int .i64 0) ∧ Turn (RsO b) w2 w' F ((gives x.1 (x.2[i].take 2), x.2[i].drop 2).1, x.2.set i ((gives x.1 (x.2[i].take 2), x.2[i].drop 2).2 ++ [v])))) (fun w8 h8 => ?_)
        · simp only [List.length_drop] at hput
          exact hput
        · obtain ⟨F5, s1, s2, s3⟩ := hp _ _ (set_le r1.2 i (by simp; omega)) h8
          refine rgive0 s1 (by simpa using hi) (by simp; omega) v fun w9 hT9 => ?_
          simp only [List.set_set, List.getElem_set_self] at hT9
          have e2 : gives x.1 (x.2[i].take 2) = giveS (giveS x.1 x.2[i][0]) x.2[i][1] := by
            rw [gives_succ _ (k := 1) (by omega), gives_succ _ (k := 0) (by omega)]
            rfl
          rw [e2]
          exact Turn.next h3 hS.none (fun _ h => .inl h) (Turn.next (w1 := w5) q1 q2 q3 (Turn.next (w1 := w7) r1 r2 r3 (Turn.next s1 s2 s3 hT9)))
      · have g2 : ¬ 4 ≤ x.2[i].length := by simp at g2; omega
        have hb : backS (x.1, x.2[i]) = (x.1, x.2[i]) := by simp only [backS]; rw [if_neg g2]
        rw [hb]
        exact rgive0 h hi (by omega) v fun w4 hT => hT

theorem wo_last {l : List Int} (hn : l.Nodup) (h : 0 < l.length) : wo l (l[l.length - 1]) = l.dropLast := by
  have hne : l ≠ [] := fun e => by subst e; simp at h
  have e1 : l[l.length - 1] = l.getLast hne := by rw [List.getLast_eq_getElem]
  have e2 : l = l.dropLast ++ [l[l.length - 1]] := by rw [e1]; exact (List.dropLast_concat_getLast hne).symm
  have key : ∀ (m : List Int) (v : Int), (m ++ [v]).Nodup → wo (m ++ [v]) v = m := by
    intro m v hm
    rw [List.nodup_append] at hm
    unfold wo
    rw [List.filter_append]
    have h1 : m.filter (fun x => decide (x ≠ v)) = m := by
      rw [List.filter_eq_self]
      intro y hy
      simpa using hm.2.2 y hy v (by simp)
    rw [h1]
    simp
  have := key l.dropLast l[l.length - 1] (by rw [← e2]; exact hn)
  rw [← e2] at this
  exact this

theorem ralloc0 (h : RsO b w F x) {i : Nat} (hi : i < x.2.length) (hn : x.2[i].Nodup) {K : World → Prop} (hK : ∀ w', Turn (RsO b) w w' F (x.1, x.2.set i x.2[i].dropLast) → K w') :
    CutD Try.prog M25 c25_0 (e25_0 (some ⟨b, 0, none⟩) (i : Int)) w (k25_0 fun e w' => e = .returned (.tuple #[.int .i64 (lastE x.2[i]).1, .int .i64 (lastE x.2[i]).2]) ∧ K w') := by
  refine CutD.mk ?_
  rw [t25_0]
  have h4 : x.2[i].length ≤ 4 := h.2 _ (List.getElem_mem hi)
  obtain ⟨b2, F1, G, a, c0, p, c, h1, hR, hd, ht, hp⟩ := h.row hi
  obtain ⟨F2, hA⟩ := hR.open hi
  refine ⟨_, rfl, _, _, _, hA.blk0.cell rfl, ⟨by omega, by omega⟩, a, rfl, _, _, _, hA.cell0, fun g => ?_, fun g => ?_⟩
  · have he : x.2[i] = [] := by simpa using g
    refine ⟨by rw [he]; rfl, hK _ ?_⟩
    have : x.2.set i x.2[i].dropLast = x.2 := by rw [he]; show x.2.set i [] = x.2; rw [← he, List.set_getElem_self]
    rw [this]
    exact Turn.same h
  · have hpos : 0 < x.2[i].length := by
      have : x.2[i] ≠ [] := fun e => by rw [e] at g; simp at g
      exact List.length_pos_iff.2 this
    have e1 : IntKind.wrap .i64 ((x.2[i].length : Int) - 1) = ((x.2[i].length - 1 : Nat) : Int) := by rw [w64 (by omega)]; omega
    rw [e1]
    obtain ⟨a', ha', hc'⟩ := hA.cells.at1 (i := x.2[i].length - 1) (by omega)
    have hl : x.2[i].getLast? = some x.2[i][x.2[i].length - 1] := by rw [List.getLast?_eq_getElem?]; simp [hpos]
    refine ⟨_, rfl, _, _, _, hA.blk0.cell rfl, ⟨by omega, by omega⟩, a, rfl, _, _, _, hA.cell0, ⟨by omega, by omega⟩, a', ha', _, hc', fun w3 z1 z2 z3 z4 => ?_⟩
    have hS := Upd.same no z1 z2 z3 z4
    have h3 : RsO b w3 F x := Frame.kp.upd h hS (fun _ _ h => h)
    obtain ⟨b2, F1, G, a, c0, p, c, h1, hR, hd, ht, hp⟩ := h3.row hi
    obtain ⟨F2, hA⟩ := hR.open hi
    refine ⟨_, rfl, _, _, _, hA.blk0.cell rfl, _, rfl, _, _, _, hA.blk0.cell rfl, ⟨by omega, by omega⟩, a, rfl, _, _, _, hA.cell0, ⟨(fWithout_ok hA.cells (by omega) _).mono ?_⟩⟩
    rintro e w4 ⟨p', c', rfl, hL⟩
    refine ⟨_, _, _, rfl, (hA.blk _ hL.U.none).cell rfl, ⟨by omega, by omega⟩, a, rfl, ?_⟩
    refine hA.put _ _ _ _ (Ls.fresh hL) _ fun w5 h5 => ⟨by simp [lastE, hl], hK _ ?_⟩
    rw [wo_last hn hpos] at h5
    exact Turn.next h3 hS.none (fun _ h => .inl h) (hp _ _ (set_le h3.2 i (by simp; omega)) h5)

theorem rsalloc_ok (h : RsO b w F x) (cpu : Int) (hn : inC x cpu → (fillS (x.1, rowC x cpu)).2.Nodup) : Calls Try.prog 25 #[.pointer (some ⟨b, 0, none⟩), .int .i64 cpu] w fun e w' => e = .returned (.tuple #[.int .i64 (allocE x cpu).1, .int .i64 (allocE x cpu).2]) ∧ Turn (RsO b) w w' F (allocS x cpu) := by
  refine u25 ?_
  rw [t25]
  refine ⟨(ris_ok h cpu).mono ?_⟩
  rintro e w1 ⟨rfl, rfl⟩
  refine ⟨_, rfl, fun g => ?_, fun g => ?_⟩
  · have hn : ¬ inC x cpu := by simpa using g
    rw [allocE, allocS, if_neg hn, if_neg hn]
    exact ⟨rfl, Turn.same h⟩
  · have hc : inC x cpu := by simpa using g
    have hn := hn hc
    rw [allocE, allocS, if_pos hc, if_pos hc]
    obtain ⟨i, hi, rfl⟩ := inC_at hc
    rw [rowC_at hi] at hn ⊢
    obtain ⟨b2, F1, G, a, c0, p, c, h1, hR, hd, ht, hp⟩ := h.row hi
    obtain ⟨F2, hA⟩ := hR.open hi
    refine ⟨_, rfl, _, _, _, hA.blk0.cell rfl, ⟨by omega, by omega⟩, a, rfl, _, _, _, hA.cell0, fun g => ?_, fun g => ?_⟩
    · have he : x.2[i] = [] := by simpa using g
      have h0 : x.2.set i [] = x.2 := by rw [← he, List.set_getElem_self]
      clear hA hR hd ht hp h1
      rw [he, fillS, if_pos rfl] at hn ⊢
      refine ⟨WP_loop okProg (M := M25) (σ := Nat × List Nat × List Int) (fun s => e25_1 (some ⟨b, 0, none⟩) (i : Int) (s.1 : Int))
        (fun s w' => s.1 ≤ 2 ∧ s.2.2.length ≤ s.1 ∧ (if s.1 = 0 then s.2 = (x.1, []) else if s.1 = 1 then s.2 = tk1 (x.1, []) else s.2 = tk1 (tk1 (x.1, []))) ∧ Turn (RsO b) w1 w' F (s.2.1, x.2.set i s.2.2)) (fun s _ => 2 - s.1) (0, x.1, []) ⟨rfl, rfl, rfl, trivial⟩ ⟨by simp, by simp, by simp, by rw [h0]; exact Turn.same h⟩ ?_⟩
      rintro ⟨j, pg, l⟩ v1 ⟨j1, j2, j3, F', q1, q2, q3⟩
      simp only at j1 j2 j3 q1 ⊢
      rw [t25_1]
      refine ⟨fun g => ?_, fun g => ?_⟩
      · have hj : j < 2 := by simp at g; omega
        obtain ⟨b2, F1, h1, ⟨p, c, hB⟩, ht⟩ := q1.ptr
        refine ⟨_, rfl, _, hB.cell rfl, ⟨(rtake_ok h1).mono ?_⟩⟩
        rintro e w2 ⟨rfl, hU⟩
        obtain ⟨F3, r1, r2, r3⟩ := ht _ _ (take_len _) hU
        have hn : ∀ s, s = tk1 (pg, l) → (if j + 1 = 0 then s = (x.1, []) else if j + 1 = 1 then s = tk1 (x.1, []) else s = tk1 (tk1 (x.1, []))) := by
          rintro s rfl
          have : j = 0 ∨ j = 1 := by omega
          rcases this with rfl | rfl
          · simp only [reduceIte] at j3; rw [j3]; simp
          · simp at j3; rw [j3]; simp
        simp only at r1 ⊢
        refine ⟨_, _, rfl, fun g1 => ?_, fun g1 => ?_⟩
        · have g1 : (takeE pg).2 = 0 := by simpa using g1
          intro w3 z1 z2 z3 z4
          have hS := Upd.same no z1 z2 z3 z4
          replace r1 : RsO b w3 F3 _ := Frame.kp.upd r1 hS (fun _ _ h => h)
          have hi2 : i < (x.2.set i l).length := by simpa using hi
          obtain ⟨b2', G1, G, a, c0, p, c, h1, hR, hd, _, hp⟩ := r1.row (i := i) hi2
          obtain ⟨F2, hA⟩ := hR.open hi2
          refine ⟨_, rfl, _, _, _, hA.blk0.cell rfl, _, rfl, _, _, _, hA.blk0.cell rfl, ⟨by omega, by simp only [List.length_set]; omega⟩, a, rfl, _, _, _, hA.cell0, ⟨fun w4 hN => ?_⟩⟩
          have hN' : Upd F2 w3 w4 := (hN.upd no).none
          have hle : l.length ≤ 2 := by omega
          have hlx : (x.2.set i l)[i] = l := by simp
          obtain ⟨p', c', w5, hr, hT⟩ := Ls.push elI hA.ls (by rw [hlx]; omega) hN 35
          have hT5 := hT
          obtain ⟨_, _, hU5, _⟩ := hT5
          refine ⟨hA.cell _ hN', (hA.blk _ hN').cell rfl, (hA.blk _ hN').cell rfl, p', _, c', w5, hr, (hA.blk _ hU5).cell rfl, ⟨by omega, by simp only [List.length_set]; omega⟩, a, rfl, ?_⟩
          refine hA.put _ _ _ _ hT _ fun w6 h6 => ?_
          have h7 := hp _ _ (by
            rw [hlx]
            refine set_le r1.2 i ?_
            simp; omega) h6
          simp only [List.set_set, hlx] at h7
          refine ⟨(j + 1, takeS pg, l ++ [(takeE pg).1]), ⟨rfl, rfl, by rw [w64 (by omega)]; rfl, trivial⟩, ⟨by simp only; omega, by simp; omega, hn _ (by simp [tk1, g1]), ?_⟩, by simp only; omega⟩
          refine Turn.next q1 q2 q3 ?_
          refine Turn.next (s1 := (takeS pg, x.2.set i l)) (w1 := w3) r1 (r2.and hS.none) r3 h7
        · have g1 : (takeE pg).2 ≠ 0 := by simpa using g1
          exact ⟨(j + 1, takeS pg, l), ⟨rfl, rfl, by rw [w64 (by omega)]; rfl, trivial⟩, ⟨by simp only; omega, by simp; omega, hn _ (by simp [tk1, g1]), Turn.next q1 q2 q3 ⟨F3, r1, r2, r3⟩⟩, by simp only; omega⟩
      · have : j = 2 := by simp at g; omega
        subst this
        simp at j3
        rw [← j3] at hn ⊢
        simp only at hn ⊢
        have hi2 : i < (x.2.set i l).length := by simpa using hi
        have hh := ralloc0 (x := (pg, x.2.set i l)) q1 hi2 (by simp only [List.getElem_set_self]; exact hn) (K := fun w' => Turn (RsO b) w1 w' F (pg, x.2.set i l.dropLast)) (fun w' hT => by
          simp only [List.set_set, List.getElem_set_self] at hT
          exact Turn.next q1 q2 q3 hT)
        simp only [List.getElem_set_self] at hh
        exact hh
    · have hne : x.2[i] ≠ [] := fun e => by rw [e] at g; simp at g
      rw [fillS, if_neg hne] at hn ⊢
      exact ralloc0 h hi hn fun w' hT => hT

theorem rsnew_ok (m n : Int) (w : World) : Calls Try.prog 8 #[.int .i64 m, .int .i64 n] w fun e w' =>
    (¬ okNew m n ∧ e = .returned (.tuple #[.pointer none, .int .i64 2]) ∧ Upd no w w') ∨
    (okNew m n ∧ ∃ b F, e = .returned (.tuple #[.pointer (some ⟨b, 0, none⟩), .int .i64 0]) ∧ RsO b w' F (newK m n) ∧ Upd no w w' ∧ ∀ i, F i → w.heap.size ≤ i) := by
  refine u8 ?_
  rw [t8]
  refine ⟨(rnew_ok n w).mono ?_⟩
  rintro e w1 (⟨hno, rfl, rfl⟩ | ⟨hyes, b1, F1, rfl, hQ, hU, hF⟩)
  · exact ⟨_, _, rfl, fun g => ⟨fun g2 => ⟨fun _ => .inl ⟨fun h => hno ⟨h.2.2.1, h.2.2.2⟩, rfl, Upd.refl _ _⟩, fun g => by simp at g⟩, fun _ => .inl ⟨fun h => hno ⟨h.2.2.1, h.2.2.2⟩, rfl, Upd.refl _ _⟩⟩, fun _ => .inl ⟨fun h => hno ⟨h.2.2.1, h.2.2.2⟩, rfl, Upd.refl _ _⟩⟩
  · refine ⟨_, _, rfl, fun g1 => ⟨fun g2 => ⟨fun g => by simp at g, fun _ => ?_⟩, fun g2 => .inl ⟨?_, rfl, hU⟩⟩, fun g1 => .inl ⟨?_, rfl, hU⟩⟩
    · have g1 : ¬ m < 1 := by simpa using g1
      have g2 : ¬ 64 < m := by simpa using g2
      obtain ⟨k, rfl⟩ : ∃ k : Nat, m = k := ⟨m.toNat, by omega⟩
      obtain ⟨w2, hr, hU2, hL⟩ := run_mkV (f := fun _ : Unit => Value.slice none 0 0) (x0 := ()) elL w1 (n := k) (by omega) (by omega) .i64 .i64
      have hS := hL.2
      simp only [List.length_replicate, List.map_replicate] at hS
      refine ⟨_, _, _, w2, hr, ⟨fun w3 hN => .inr ⟨⟨by omega, by omega, hyes.1, hyes.2⟩, w2.heap.size, ?_⟩⟩⟩
      obtain ⟨F, q1, q2, q3⟩ := KpO.new (PO := RpO) (T := 41) (E := 35) (I := 3) (enc := rsE) hQ hF hU hU2 hS (fun i hi => (by obtain ⟨a, ha, rfl⟩ := hi; cases ha; exact Nat.le_refl _)) hN (by simp only [rsE])
      exact ⟨F, rfl, q1, q2, q3⟩
    · unfold okNew; simp at g2; omega
    · unfold okNew; simp at g1; omega
end
end Go.Dav
