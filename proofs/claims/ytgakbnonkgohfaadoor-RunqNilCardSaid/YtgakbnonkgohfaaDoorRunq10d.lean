/- What the functions of the cores' queues come to. -/
import Derived.Test.YtgakbnonkgohfaaDoorPqL10d
import Derived.Test.YtgakbnonkgohfaaDoorTq
set_option linter.unusedVariables false
set_option linter.unusedSimpArgs false
set_option linter.unusedSectionVars false
namespace Go.Dav
open Go.Proofs
theorem elPq : ElemT Tryd.prog 52 55 1 8 [.pointer none] := ⟨by kernel_rfl, by kernel_rfl, rfl, by omega⟩
abbrev RS := List (Nat × Its)
def rqE (r : Nat) (p : Option Addr) (n c : Nat) : List Value := [.slice p n c, .map (some r)]
abbrev RqX (b r : Nat) : Ob (((Int → Option Int) × Nat) × RS) := Star (MapO r (Value.int .i64)) (Tq PqO b 54 55 (rqE r))
/-- Is one in the queue of a core? -/
def memQ (x : RS) (i : Nat) (k : Int) : Bool := inE (x.getD i (0, [])) k
structure RqI (x : RS) (g : Int → Option Int) : Prop where
  map : ∀ k v, g k = some v ↔ ∃ i : Nat, v = i ∧ memQ x i k = true
  most : ∀ q ∈ x, q.1 = 32
  cpus : 1 ≤ x.length ∧ x.length ≤ 64
/-- The queues of the cores. -/
def RqO (b : Nat) : Ob RS := fun w F x => ∃ r g, RqX b r w F (g, x) ∧ RqI x g.1
instance Frame.rq (b : Nat) : Frame (RqO b) where
  upd := fun ⟨r, g, h, k⟩ hU hG => ⟨r, g, Frame.star.upd h hU hG, k⟩
  lt := fun ⟨r, g, h, _⟩ => Frame.star.lt h
def inQ (x : RS) (c : Int) : Prop := 0 ≤ c ∧ c < x.length
instance (x : RS) (c : Int) : Decidable (inQ x c) := by unfold inQ; infer_instance
theorem inQ_of {x : RS} {i : Nat} (hi : i < x.length) : inQ x (i : Int) := by unfold inQ; omega
theorem inQ_at {x : RS} {c : Int} (h : inQ x c) : ∃ i : Nat, i < x.length ∧ c = (i : Int) := ⟨c.toNat, by unfold inQ at h; omega, by unfold inQ at h; omega⟩
def rowQ (x : RS) (c : Int) : Nat × Its := x.getD c.toNat (0, [])
theorem rowQ_at {x : RS} {i : Nat} (hi : i < x.length) : rowQ x (i : Int) = x[i] := by simp [rowQ, hi]
def whE (x : RS) (k : Int) : Int × Bool := match (List.range x.length).find? (fun i => memQ x i k) with
  | none => (0, false)
  | some i => ((i : Int), true)
theorem memQ_lt {x : RS} {i : Nat} {k : Int} (h : memQ x i k = true) : i < x.length := by
  rcases Nat.lt_or_ge i x.length with hi | hi
  · exact hi
  · rw [memQ, List.getD_eq_getElem?_getD, List.getElem?_eq_none hi] at h; cases h
theorem memQ_at {x : RS} {i : Nat} (hi : i < x.length) (k : Int) : memQ x i k = inE x[i] k := by simp [memQ, hi]
theorem memQ_set {x : RS} {c : Nat} (hc : c < x.length) (q : Nat × Its) (i : Nat) (k : Int) : memQ (x.set c q) i k = if i = c then inE q k else memQ x i k := by
  unfold memQ
  by_cases hi : i = c
  · subst hi; simp [hc]
  · rw [if_neg hi]
    simp [List.getElem?_set, Ne.symm hi]
theorem whE_cases (x : RS) (k : Int) : (whE x k = (0, false) ∧ ∀ i, memQ x i k = false) ∨ ∃ i : Nat, i < x.length ∧ whE x k = ((i : Int), true) ∧ memQ x i k = true := by
  unfold whE
  cases h : (List.range x.length).find? (fun i => memQ x i k) with
  | none =>
    refine .inl ⟨rfl, fun i => ?_⟩
    cases hm : memQ x i k with
    | false => rfl
    | true =>
      have := List.find?_eq_none.1 h i (List.mem_range.2 (memQ_lt hm))
      simp [hm] at this
  | some i =>
    have h1 := List.find?_some h
    exact .inr ⟨i, memQ_lt h1, rfl, h1⟩
section
variable {x : RS} {g : (Int → Option Int) × Nat}
theorem RqI.one (h : RqI x g.1) {k : Int} {i j : Nat} (h1 : memQ x i k = true) (h2 : memQ x j k = true) : i = j := by
  have e1 := (h.map k i).2 ⟨i, rfl, h1⟩
  have e2 := (h.map k j).2 ⟨j, rfl, h2⟩
  rw [e1] at e2
  have := Option.some.inj e2
  omega
theorem RqI.wh (h : RqI x g.1) (k : Int) : (g.1 k).getD 0 = (whE x k).1 ∧ (g.1 k).isSome = (whE x k).2 := by
  rcases whE_cases x k with ⟨h1, h2⟩ | ⟨i, hi, h1, h2⟩
  · have : g.1 k = none := by
      cases hg : g.1 k with
      | none => rfl
      | some v => obtain ⟨i, _, hm⟩ := (h.map k v).1 hg; rw [h2] at hm; cases hm
    rw [h1, this]; exact ⟨rfl, rfl⟩
  · rw [h1, (h.map k i).2 ⟨i, rfl, h2⟩]; exact ⟨rfl, rfl⟩
theorem RqI.whAt (h : RqI x g.1) {k : Int} {i : Nat} (hm : memQ x i k = true) : whE x k = ((i : Int), true) := by
  rcases whE_cases x k with ⟨h1, h2⟩ | ⟨j, hj, h1, h2⟩
  · rw [h2] at hm; cases hm
  · rw [h1, h.one h2 hm]
theorem most_set {x : RS} (h : ∀ q ∈ x, q.1 = 32) {c : Nat} {q : Nat × Its} (hq : q.1 = 32) : ∀ q' ∈ x.set c q, q'.1 = 32 := by
  intro q' hq'
  rcases List.mem_or_eq_of_mem_set hq' with h1 | h1
  · exact h q' h1
  · rw [h1]; exact hq
/-- A queue that has the same ones in another order. -/
theorem RqI.same (h : RqI x g.1) {c : Nat} (hc : c < x.length) {q : Nat × Its} (h1 : ∀ k, inE q k = inE x[c] k) (h2 : q.1 = x[c].1) : RqI (x.set c q) g.1 := by
  refine ⟨fun k v => ?_, most_set h.most (by rw [h2]; exact h.most _ (List.getElem_mem hc)), by simpa using h.cpus⟩
  rw [h.map]
  have : ∀ i, memQ (x.set c q) i k = memQ x i k := fun i => by
    rw [memQ_set hc]
    by_cases hi : i = c
    · subst hi; rw [if_pos rfl, h1, memQ_at hc]
    · rw [if_neg hi]
  simp only [this]
theorem RqI.put (h : RqI x g.1) {c : Nat} (hc : c < x.length) {p k : Int} (hp : pqPushE x[c] p k = 0) (hk : ∀ i, memQ x i k = false) : RqI (x.set c (pqPushS x[c] p k)) (mput g k (c : Int)).1 := by
  refine ⟨fun j v => ?_, most_set h.most (by rw [most_push]; exact h.most _ (List.getElem_mem hc)), by simpa using h.cpus⟩
  simp only [mput, memQ_set hc, in_push hp]
  by_cases hj : j = k
  · subst hj
    rw [if_pos rfl]
    constructor
    · rintro h1
      have := Option.some.inj h1
      exact ⟨c, this.symm, by simp⟩
    · rintro ⟨i, rfl, hi⟩
      by_cases hic : i = c
      · rw [hic]
      · rw [if_neg hic, hk] at hi; cases hi
  · rw [if_neg hj, h.map]
    have : ∀ i, (if i = c then (inE x[c] j || decide (j = k)) else memQ x i j) = memQ x i j := fun i => by
      by_cases hic : i = c
      · subst hic; rw [if_pos rfl, memQ_at hc]; simp [hj]
      · rw [if_neg hic]
    simp only [this]
theorem RqI.take (h : RqI x g.1) {c : Nat} (hc : c < x.length) {k : Int} (hk : memQ x c k = true) : RqI (x.set c (pqDropS x[c] k)) (mdel g k).1 := by
  refine ⟨fun j v => ?_, most_set h.most (h.most x[c] (List.getElem_mem hc)), by simpa using h.cpus⟩
  simp only [mdel, memQ_set hc, in_drop]
  by_cases hj : j = k
  · subst hj
    rw [if_pos rfl]
    constructor
    · intro h1; cases h1
    · rintro ⟨i, rfl, hi⟩
      by_cases hic : i = c
      · rw [if_pos hic] at hi; simp at hi
      · rw [if_neg hic] at hi; exact absurd (h.one hi hk) hic
  · rw [if_neg hj, h.map]
    have : ∀ i, (if i = c then (inE x[c] j && decide (j ≠ k)) else memQ x i j) = memQ x i j := fun i => by
      by_cases hic : i = c
      · subst hic; rw [if_pos rfl, memQ_at hc]; simp [hj]
      · rw [if_neg hic]
    simp only [this]
/-- One goes from core to core. -/
theorem RqI.move (h : RqI x g.1) {f t : Nat} (hf : f < x.length) (ht : t < x.length) (hft : f ≠ t) {p k : Int} (hk : memQ x f k = true) (hp : pqPushE x[t] p k = 0) : RqI ((x.set t (pqPushS x[t] p k)).set f (pqDropS x[f] k)) (mput g k (t : Int)).1 := by
  have hf' : f < (x.set t (pqPushS x[t] p k)).length := by simpa using hf
  refine ⟨fun j v => ?_, most_set (most_set h.most (by rw [most_push]; exact h.most _ (List.getElem_mem ht))) (h.most x[f] (List.getElem_mem hf)), by simpa using h.cpus⟩
  simp only [mput, memQ_set hf', memQ_set ht, in_drop, in_push hp]
  by_cases hj : j = k
  · subst hj
    rw [if_pos rfl]
    constructor
    · rintro h1
      have := Option.some.inj h1
      exact ⟨t, this.symm, by rw [if_neg (Ne.symm hft), if_pos rfl]; simp⟩
    · rintro ⟨i, rfl, hi⟩
      by_cases hif : i = f
      · rw [if_pos hif] at hi; simp at hi
      · rw [if_neg hif] at hi
        by_cases hit : i = t
        · rw [hit]
        · rw [if_neg hit] at hi; exact absurd (h.one hi hk) hif
  · rw [if_neg hj, h.map]
    have : ∀ i, (if i = f then (inE x[f] j && decide (j ≠ k)) else if i = t then (inE x[t] j || decide (j = k)) else memQ x i j) = memQ x i j := fun i => by
      by_cases hif : i = f
      · subst hif; rw [if_pos rfl, memQ_at hf]; simp [hj]
      · rw [if_neg hif]
        by_cases hit : i = t
        · subst hit; rw [if_pos rfl, memQ_at ht]; simp [hj]
        · rw [if_neg hit]
    simp only [this]
end

def rqPutE (x : RS) (c p k : Int) : Int := if inQ x c then (if (whE x k).2 then 6 else pqPushE (rowQ x c) p k) else 3
def rqPutS (x : RS) (c p k : Int) : RS := if rqPutE x c p k = 0 then x.set c.toNat (pqPushS (rowQ x c) p k) else x
def rqPickE (x : RS) (c : Int) : Int × Int := if inQ x c then topE (rowQ x c) else (0, 3)
def rqPickS (x : RS) (c : Int) : RS := if inQ x c then x.set c.toNat (pqTurnS (rowQ x c)) else x
def rqBackE (x : RS) (k : Int) : Int := if (whE x k).2 then 0 else 4
def rqBackS (x : RS) (k : Int) : RS := if (whE x k).2 then x.set (whE x k).1.toNat (pqBackS (rowQ x (whE x k).1) k) else x
def rqTakeE (x : RS) (k : Int) : Int := if (whE x k).2 then 0 else 4
def rqTakeS (x : RS) (k : Int) : RS := if (whE x k).2 then x.set (whE x k).1.toNat (pqDropS (rowQ x (whE x k).1) k) else x
def rqLoadE (x : RS) (c : Int) : Int := if inQ x c then (rowQ x c).2.length else 0
def rqListE (x : RS) (c : Int) : List Int := if inQ x c then listOf (rowQ x c).2 else []
def rqPrioE (x : RS) (k : Int) : Int × Bool := if (whE x k).2 then prioE (rowQ x (whE x k).1) k else (0, false)
def endE (l : List Int) : Int := l.getLast?.getD 0
def rqMoveE (x : RS) (f t : Int) : Int × Int := if inQ x f ∧ inQ x t then (if f = t then (0, 2) else if listOf (rowQ x f).2 = [] then (0, 12) else
    if pqPushE (rowQ x t) (prioE (rowQ x f) (endE (listOf (rowQ x f).2))).1 (endE (listOf (rowQ x f).2)) = 0 then (endE (listOf (rowQ x f).2), 0) else (0, pqPushE (rowQ x t) (prioE (rowQ x f) (endE (listOf (rowQ x f).2))).1 (endE (listOf (rowQ x f).2)))) else (0, 3)
def rqMoveS (x : RS) (f t : Int) : RS := if inQ x f ∧ inQ x t ∧ f ≠ t ∧ listOf (rowQ x f).2 ≠ [] ∧ pqPushE (rowQ x t) (prioE (rowQ x f) (endE (listOf (rowQ x f).2))).1 (endE (listOf (rowQ x f).2)) = 0 then
    (x.set t.toNat (pqPushS (rowQ x t) (prioE (rowQ x f) (endE (listOf (rowQ x f).2))).1 (endE (listOf (rowQ x f).2)))).set f.toNat (pqDropS (rowQ x f) (endE (listOf (rowQ x f).2))) else x

section
variable {b r : Nat} {w w' : World} {F : Fp} {x : RS} {g : (Int → Option Int) × Nat}
theorem rqx_blk (h : RqX b r w F (g, x)) : ∃ p c, Blk w b (rqE r p x.length c) 54 := by
  obtain ⟨F1, h1, _⟩ := h.right
  exact h1.blk
theorem rqx_map (h : RqX b r w F (g, x)) : ∃ F1, MapO r (Value.int .i64) w F1 g ∧ ∀ w' g', Turn (MapO r (Value.int .i64)) w w' F1 g' → Turn (RqX b r) w w' F (g', x) := Star.left h
theorem rqx_q (h : RqX b r w F (g, x)) {i : Nat} (hi : i < x.length) : ∃ a c bi F1, Blk w b (rqE r (some a) x.length c) 54 ∧ w.cell? (a.add (i * 1)) = some (.pointer (some ⟨bi, 0, none⟩)) ∧ PqO bi w F1 x[i] ∧
    ∀ w' s', Turn (PqO bi) w w' F1 s' → Turn (RqX b r) w w' F (g, x.set i s') := by
  obtain ⟨F1, h1, k1⟩ := h.right
  obtain ⟨a, c, bi, F2, q1, q2, q3, q4⟩ := h1.at hi
  exact ⟨a, c, bi, F2, q1, q2, q3, fun w' s' hT => k1 _ _ (q4 _ _ hT)⟩
/-- The map is turned, then a queue. -/
theorem rqx_qm (h : RqX b r w F (g, x)) {i : Nat} (hi : i < x.length) : ∃ a c bi F1 Fm, Blk w b (rqE r (some a) x.length c) 54 ∧ w.cell? (a.add (i * 1)) = some (.pointer (some ⟨bi, 0, none⟩)) ∧ PqO bi w F1 x[i] ∧ MapO r (Value.int .i64) w Fm g ∧
    ∀ w1 g', Turn (MapO r (Value.int .i64)) w w1 Fm g' → PqO bi w1 F1 x[i] ∧ ∀ w' s', Turn (PqO bi) w1 w' F1 s' → Turn (RqX b r) w w' F (g', x.set i s') := by
  obtain ⟨G1, G2, h1, h2, h3, h4⟩ := h
  simp only at h1 h2
  obtain ⟨a, c, bi, F1, hall⟩ := Tq.atU h2 hi
  obtain ⟨q1, q2, q3, _⟩ := hall w no (Upd.refl _ _) (fun _ _ h => h)
  refine ⟨a, c, bi, F1, G1, q1, q2, q3, h1, ?_⟩
  rintro w1 g' ⟨F', m1, m2, m3⟩
  obtain ⟨_, _, p3, p4⟩ := hall w1 G1 m2 (fun j hj hf => h4 j hf hj)
  refine ⟨p3, fun w' s' hT => ?_⟩
  obtain ⟨H2, t1, t2, t3⟩ := p4 w' s' hT
  have hlt := Frame.tq.lt h2
  have hd : ∀ j, F' j → ¬ G2 j := fun j hj hf => by
    rcases m3 j hj with h | h
    · exact h4 j h hf
    · have := hlt j hf; omega
  have hl1 := (Frame.map r _).lt m1
  refine ⟨fun j => F' j ∨ H2 j, ⟨F', H2, (Frame.map r _).upd m1 t2 hd, t1, fun _ => Iff.rfl, fun j hj hf => ?_⟩, (m2.mono (fun j _ hj => (h3 j).2 (.inl hj))).trans t2 (fun j _ hj => (h3 j).2 (.inr hj)), fun j hj => ?_⟩
  · rcases t3 j hf with h | h
    · exact hd j hj h
    · have := hl1 j hj; omega
  · rcases hj with hj | hj
    · exact (m3 j hj).imp (fun h => (h3 j).2 (.inl h)) id
    · rcases t3 j hj with h | h
      · exact .inl ((h3 j).2 (.inr h))
      · exact .inr (Nat.le_trans m2.size h)
theorem Turn.rq (h : Turn (RqX b r) w w' F (g, x)) (k : RqI x g.1) : Turn (RqO b) w w' F x := by
  obtain ⟨F', h1, h2⟩ := h
  exact ⟨F', ⟨r, g, h1, k⟩, h2⟩
theorem RqO.V (h : RqO b w F x) {i : Nat} (hi : i < x.length) : PqV x[i] := by
  obtain ⟨r, g, h, _⟩ := h
  obtain ⟨_, _, _, _, _, _, hq, _⟩ := rqx_q h hi
  exact hq.V
theorem RqO.I (h : RqO b w F x) : ∃ g : (Int → Option Int) × Nat, RqI x g.1 := by
  obtain ⟨r, g, _, k⟩ := h
  exact ⟨g, k⟩

theorem rqmay_ok (h : RqX b r w F (g, x)) (c : Int) : Calls Tryd.prog 36 #[.pointer (some ⟨b, 0, none⟩), .int .i64 c] w fun e w' => e = .returned (.int .i64 (if inQ x c then 0 else 3)) ∧ w' = w := by
  obtain ⟨p, c1, hB⟩ := rqx_blk h
  refine u36 ?_
  rw [t36]
  refine ⟨fun g => by simp at g, fun _ => ⟨fun g1 => ⟨_, rfl, _, _, _, hB.cell rfl, fun g2 => ?_, fun g2 => ?_⟩, fun g1 => ?_⟩⟩
  · rw [if_neg (by unfold inQ; simp at g1 g2; omega)]; exact ⟨rfl, rfl⟩
  · rw [if_pos (by unfold inQ; simp at g1 g2; omega)]; exact ⟨rfl, rfl⟩
  · rw [if_neg (by unfold inQ; simp at g1; omega)]; exact ⟨rfl, rfl⟩
theorem rqwhere_ok (h : RqO b w F x) (k : Int) : Calls Tryd.prog 9 #[.pointer (some ⟨b, 0, none⟩), .int .i64 k] w fun e w' => e = .returned (.tuple #[.int .i64 (whE x k).1, .bool (whE x k).2]) ∧ w' = w := by
  obtain ⟨r, g, h, hi⟩ := h
  obtain ⟨p, c1, hB⟩ := rqx_blk h
  obtain ⟨F1, hm, _⟩ := rqx_map h
  refine u9 ?_
  rw [t9]
  refine ⟨fun g => by simp at g, fun _ => ⟨_, rfl, _, hB.cell rfl, (whE x k).1, (whE x k).2, ?_, rfl, rfl⟩⟩
  rw [run_lookup mpT hm k true, ← (hi.wh k).1, ← (hi.wh k).2]
  cases g.1 k <;> rfl
theorem rqprio_ok (h : RqO b w F x) (k : Int) : Calls Tryd.prog 11 #[.pointer (some ⟨b, 0, none⟩), .int .i64 k] w fun e w' => e = .returned (.tuple #[.int .i64 (rqPrioE x k).1, .bool (rqPrioE x k).2]) ∧ w' = w := by
  refine u11 ?_
  rw [t11]
  refine ⟨(rqwhere_ok h k).mono ?_⟩
  rintro e w1 ⟨rfl, rfl⟩
  obtain ⟨r, g, h, hi⟩ := h
  unfold rqPrioE
  rcases whE_cases x k with ⟨h1, h2⟩ | ⟨i, hl, h1, h2⟩
  · rw [h1]
    exact ⟨_, _, rfl, fun _ => ⟨rfl, rfl⟩, fun g => by simp at g⟩
  · rw [h1]
    obtain ⟨a, c, bi, F1, hB, hc, hq, _⟩ := rqx_q h hl
    simp only [rowQ_at hl, if_true]
    refine ⟨_, _, rfl, fun g => by simp at g, fun _ => ⟨_, rfl, _, _, _, hB.cell rfl, ⟨by omega, by omega⟩, a, rfl, _, hc, ⟨(prio_ok hq k).mono ?_⟩⟩⟩
    rintro e w2 ⟨rfl, rfl⟩
    exact ⟨_, _, rfl, rfl, rfl⟩
theorem rqload_ok (h : RqO b w F x) (c : Int) : Calls Tryd.prog 13 #[.pointer (some ⟨b, 0, none⟩), .int .i64 c] w fun e w' => e = .returned (.int .i64 (rqLoadE x c)) ∧ w' = w := by
  obtain ⟨r, g, h, hi⟩ := h
  refine u13 ?_
  rw [t13]
  refine ⟨(rqmay_ok h c).mono ?_⟩
  rintro e w1 ⟨rfl, rfl⟩
  unfold rqLoadE
  by_cases hc : inQ x c
  · rw [if_pos hc, if_pos hc]
    obtain ⟨i, hl, rfl⟩ := inQ_at hc
    obtain ⟨a, c, bi, F1, hB, hcl, hq, _⟩ := rqx_q h hl
    rw [rowQ_at hl]
    refine ⟨_, rfl, fun g => by simp at g, fun _ => ⟨_, rfl, _, _, _, hB.cell rfl, ⟨by omega, by omega⟩, a, rfl, _, hcl, ⟨(plen_ok hq).mono ?_⟩⟩⟩
    rintro e w2 ⟨rfl, rfl⟩
    exact ⟨_, rfl, rfl, rfl⟩
  · rw [if_neg hc, if_neg hc]
    exact ⟨_, rfl, fun _ => ⟨rfl, rfl⟩, fun g => by simp at g⟩
theorem rqlist_ok (h : RqO b w F x) (c : Int) : Calls Tryd.prog 16 #[.pointer (some ⟨b, 0, none⟩), .int .i64 c] w fun e w' => ∃ p d, e = .returned (.slice p (rqListE x c).length d) ∧ Loc w w' 3 p d (rqListE x c) := by
  obtain ⟨r, g, h, hi⟩ := h
  refine u16 ?_
  rw [t16]
  refine ⟨(rqmay_ok h c).mono ?_⟩
  rintro e w1 ⟨rfl, rfl⟩
  unfold rqListE
  by_cases hc : inQ x c
  · rw [if_pos hc, if_pos hc]
    obtain ⟨i, hl, rfl⟩ := inQ_at hc
    obtain ⟨a, c, bi, F1, hB, hcl, hq, _⟩ := rqx_q h hl
    rw [rowQ_at hl]
    refine ⟨_, rfl, fun g => by simp at g, fun _ => ⟨_, rfl, _, _, _, hB.cell rfl, ⟨by omega, by omega⟩, a, rfl, _, hcl, ⟨(listq_ok hq).mono ?_⟩⟩⟩
    rintro e w2 ⟨p, d, rfl, hL⟩
    exact ⟨_, _, _, rfl, p, d, rfl, hL⟩
  · rw [if_neg hc, if_neg hc]
    exact ⟨_, rfl, fun _ => ⟨none, 0, rfl, Loc.nil (Upd.refl _ _) _⟩, fun g => by simp at g⟩
theorem rqput_ok (h : RqO b w F x) (c p k : Int) : Calls Tryd.prog 24 #[.pointer (some ⟨b, 0, none⟩), .int .i64 c, .int .i64 p, .int .i64 k] w fun e w' => e = .returned (.int .i64 (rqPutE x c p k)) ∧ Turn (RqO b) w w' F (rqPutS x c p k) := by
  obtain ⟨r, g, hx, hi⟩ := id h
  refine u24 ?_
  rw [t24]
  refine ⟨(rqmay_ok hx c).mono ?_⟩
  rintro e w1 ⟨rfl, rfl⟩
  unfold rqPutS rqPutE
  by_cases hc : inQ x c
  · simp only [if_pos hc]
    obtain ⟨i, hl, rfl⟩ := inQ_at hc
    obtain ⟨a, c, bi, F1, hB, hcl, hq, kq⟩ := rqx_q hx hl
    obtain ⟨F2, hm, _⟩ := rqx_map hx
    rw [rowQ_at hl]
    have hlk := run_lookup mpT hm k true
    have e1 : ((g.1 k).map (Value.int .i64)).getD (.int .i64 0) = .int .i64 (whE x k).1 := by rw [← (hi.wh k).1]; cases g.1 k <;> rfl
    simp only [if_true, e1, (hi.wh k).2] at hlk
    refine ⟨_, rfl, fun g => by simp at g, fun _ => ⟨_, rfl, _, hB.cell rfl, _, _, hlk, fun g1 => ?_, fun g1 => ⟨_, rfl, _, _, _, hB.cell rfl, ⟨by omega, by omega⟩, a, rfl, _, hcl, ⟨(ppush_ok hq p k).mono ?_⟩⟩⟩⟩
    · rw [g1]
      exact ⟨rfl, Turn.same h⟩
    · rintro e w2 ⟨rfl, hT⟩
      rw [g1]
      have hT2 := kq _ _ hT
      have hno : ∀ j, memQ x j k = false := by
        rcases whE_cases x k with ⟨_, h2⟩ | ⟨j, _, h1, _⟩
        · exact h2
        · rw [h1] at g1; cases g1
      refine ⟨_, rfl, fun g2 => ?_, fun g2 => ?_⟩
      · have g2 := eq_of_beq g2
        obtain ⟨F3, q1, q2, q3⟩ := hT2
        obtain ⟨p3, c3, hB3⟩ := rqx_blk q1
        obtain ⟨F4, hm3, k3⟩ := rqx_map q1
        obtain ⟨w3, hr, ht⟩ := run_put mpT hm3 k (i : Int)
        refine ⟨_, rfl, _, hB3.cell rfl, w3, hr, ?_, ?_⟩
        · simp [g2]
        · have T := Turn.rq (Turn.glue (Upd.refl _ _) q2 q3 (k3 _ _ ht)) (hi.put hl g2 hno)
          rw [Int.toNat_natCast]
          simp only [Bool.false_eq_true, if_false, g2, if_true]
          exact T
      · have g2 : ¬ pqPushE x[i] p k = 0 := ne_of_beq_false g2
        simp only [Bool.false_eq_true, if_false, if_neg g2]
        rw [pqPushS, if_neg g2, List.set_getElem_self] at hT2
        exact ⟨by trivial, Turn.rq hT2 hi⟩
  · simp only [if_neg hc]
    exact ⟨_, rfl, fun _ => ⟨rfl, Turn.same h⟩, fun g => by simp at g⟩
theorem rqpick_ok (h : RqO b w F x) (c : Int) : Calls Tryd.prog 22 #[.pointer (some ⟨b, 0, none⟩), .int .i64 c] w fun e w' => e = .returned (.tuple #[.int .i64 (rqPickE x c).1, .int .i64 (rqPickE x c).2]) ∧ Turn (RqO b) w w' F (rqPickS x c) := by
  obtain ⟨r, g, hx, hi⟩ := id h
  refine u22 ?_
  rw [t22]
  refine ⟨(rqmay_ok hx c).mono ?_⟩
  rintro e w1 ⟨rfl, rfl⟩
  unfold rqPickS rqPickE
  by_cases hc : inQ x c
  · simp only [if_pos hc]
    obtain ⟨i, hl, rfl⟩ := inQ_at hc
    obtain ⟨a, c, bi, F1, hB, hcl, hq, kq⟩ := rqx_q hx hl
    rw [rowQ_at hl]
    refine ⟨_, rfl, fun g => by simp at g, fun _ => ⟨_, rfl, _, _, _, hB.cell rfl, ⟨by omega, by omega⟩, a, rfl, _, hcl, ⟨(topq_ok hq).mono ?_⟩⟩⟩
    rintro e w2 ⟨rfl, hU⟩
    refine ⟨_, _, rfl, fun g1 => ?_, fun g1 => ?_⟩
    · have g1 : (topE x[i]).2 ≠ 0 := by simpa using g1
      have e1 : (topE x[i]) = (0, (topE x[i]).2) := by
        unfold topE at g1 ⊢
        cases hl0 : listOf x[i].2 with
        | nil => rfl
        | cons v t => rw [hl0] at g1; simp at g1
      have e2 : pqTurnS x[i] = x[i] := by rw [pqTurnS, pqTurnE, if_neg g1]
      rw [e2, Int.toNat_natCast, List.set_getElem_self]
      refine ⟨?_, Turn.quiet h hU⟩
      rw [e1]
    · have g1 : (topE x[i]).2 = 0 := by simpa using g1
      have hx2 := Frame.star.upd hx hU (fun _ _ h => h)
      obtain ⟨a2, c2, bi2, F2, hB2, hcl2, hq2, kq2⟩ := rqx_q hx2 hl
      refine ⟨_, rfl, _, _, _, hB2.cell rfl, ⟨by omega, by omega⟩, a2, rfl, _, hcl2, ⟨(pturn_ok hq2).mono ?_⟩⟩
      rintro e w3 ⟨rfl, hT⟩
      rw [Int.toNat_natCast]
      refine ⟨_, rfl, by rw [pqTurnE], Turn.rq (g := g) (r := r) (Turn.next hx2 hU.none (fun _ h => .inl h) (kq2 _ _ hT)) (hi.same hl (in_turn _) (most_turn _))⟩
  · simp only [if_neg hc]
    exact ⟨_, rfl, fun _ => ⟨rfl, Turn.same h⟩, fun g => by simp at g⟩
theorem rqof_ok (h : RqX b r w F (g, x)) (hi : RqI x g.1) (k : Int) : Calls Tryd.prog 49 #[.pointer (some ⟨b, 0, none⟩), .int .i64 k] w fun e w' => w' = w ∧ ((e = .returned (.tuple #[.pointer none, .int .i64 4]) ∧ whE x k = (0, false)) ∨
    ∃ i, ∃ hl : i < x.length, whE x k = ((i : Int), true) ∧ memQ x i k = true ∧ ∃ a c bi F1 Fm, e = .returned (.tuple #[.pointer (some ⟨bi, 0, none⟩), .int .i64 0]) ∧ Blk w b (rqE r (some a) x.length c) 54 ∧ PqO bi w F1 x[i] ∧ MapO r (Value.int .i64) w Fm g ∧
      ∀ w1 g', Turn (MapO r (Value.int .i64)) w w1 Fm g' → PqO bi w1 F1 x[i] ∧ ∀ w' s', Turn (PqO bi) w1 w' F1 s' → Turn (RqX b r) w w' F (g', x.set i s')) := by
  refine u49 ?_
  rw [t49]
  obtain ⟨p, c1, hB⟩ := rqx_blk h
  obtain ⟨F2, hm, _⟩ := rqx_map h
  have hlk := run_lookup mpT hm k true
  have e1 : ((g.1 k).map (Value.int .i64)).getD (.int .i64 0) = .int .i64 (whE x k).1 := by rw [← (hi.wh k).1]; cases g.1 k <;> rfl
  simp only [if_true, e1, (hi.wh k).2] at hlk
  refine ⟨fun g => by simp at g, fun _ => ⟨_, rfl, _, hB.cell rfl, _, _, hlk, fun g1 => ?_, fun g1 => ?_⟩⟩
  · refine ⟨rfl, .inl ⟨rfl, ?_⟩⟩
    rcases whE_cases x k with ⟨h1, _⟩ | ⟨j, _, h1, _⟩
    · exact h1
    · rw [h1] at g1; cases g1
  · rcases whE_cases x k with ⟨h1, _⟩ | ⟨i, hl, h1, h2⟩
    · rw [h1] at g1; cases g1
    · obtain ⟨a, c, bi, F1, Fm, hB, hcl, hq, hm, kq⟩ := rqx_qm h hl
      rw [h1]
      exact ⟨_, rfl, _, _, _, hB.cell rfl, ⟨by simp only; omega, by simp only; omega⟩, a, rfl, _, hcl, rfl, .inr ⟨i, hl, rfl, h2, a, c, bi, F1, Fm, rfl, hB, hq, hm, kq⟩⟩
theorem rqback_ok (h : RqO b w F x) (k : Int) : Calls Tryd.prog 25 #[.pointer (some ⟨b, 0, none⟩), .int .i64 k] w fun e w' => e = .returned (.int .i64 (rqBackE x k)) ∧ Turn (RqO b) w w' F (rqBackS x k) := by
  obtain ⟨r, g, hx, hi⟩ := id h
  refine u25 ?_
  rw [t25]
  refine ⟨(rqof_ok hx hi k).mono ?_⟩
  unfold rqBackE rqBackS
  rintro e w1 ⟨rfl, ⟨rfl, h1⟩ | ⟨i, hl, h1, h2, a, c, bi, F1, Fm, rfl, hB, hq, hm, kq⟩⟩
  · rw [h1]
    exact ⟨_, _, rfl, fun _ => ⟨rfl, Turn.same h⟩, fun g => by simp at g⟩
  · rw [h1]
    refine ⟨_, _, rfl, fun g => by simp at g, fun _ => ⟨(pback_ok hq k).mono ?_⟩⟩
    rintro e w2 ⟨rfl, hT⟩
    have hin : inE x[i] k = true := by rw [← memQ_at hl]; exact h2
    simp only [if_true, Int.toNat_natCast, rowQ_at hl]
    exact ⟨_, rfl, by rw [pqBackE, pqDropE, hin]; rfl, Turn.rq ((kq _ _ (Turn.same hm)).2 _ _ hT) (hi.same hl (in_back _ _) (most_back _ _))⟩
theorem rqtake_ok (h : RqO b w F x) (k : Int) : Calls Tryd.prog 26 #[.pointer (some ⟨b, 0, none⟩), .int .i64 k] w fun e w' => e = .returned (.int .i64 (rqTakeE x k)) ∧ Turn (RqO b) w w' F (rqTakeS x k) := by
  obtain ⟨r, g, hx, hi⟩ := id h
  refine u26 ?_
  rw [t26]
  refine ⟨(rqof_ok hx hi k).mono ?_⟩
  unfold rqTakeE rqTakeS
  rintro e w1 ⟨rfl, ⟨rfl, h1⟩ | ⟨i, hl, h1, h2, a, c, bi, F1, Fm, rfl, hB, hq, hm, kq⟩⟩
  · rw [h1]
    exact ⟨_, _, rfl, fun _ => ⟨rfl, Turn.same h⟩, fun g => by simp at g⟩
  · rw [h1]
    have hin : inE x[i] k = true := by rw [← memQ_at hl]; exact h2
    obtain ⟨w2, hr, ht⟩ := run_del mpT hm k 3 0
    obtain ⟨hq2, kq2⟩ := kq _ _ ht
    refine ⟨_, _, rfl, fun g => by simp at g, fun _ => ⟨_, rfl, _, hB.cell rfl, w2, hr, ⟨(pdrop_ok hq2 k).mono ?_⟩⟩⟩
    rintro e w3 ⟨rfl, hT⟩
    rw [hin, if_pos rfl] at hT
    simp only [if_true, Int.toNat_natCast, rowQ_at hl]
    exact ⟨_, rfl, by rw [pqDropE, hin]; rfl, Turn.rq (kq2 _ _ hT) (hi.take hl h2)⟩
theorem endE_at {l : List Int} (h : l ≠ []) : endE l = l[l.length - 1]'(by have := List.length_pos_iff.2 h; omega) := by
  unfold endE
  rw [List.getLast?_eq_getElem?, List.getElem?_eq_getElem (by have := List.length_pos_iff.2 h; omega)]
  rfl
theorem rqmove_ok (h : RqO b w F x) (f t : Int) : Calls Tryd.prog 23 #[.pointer (some ⟨b, 0, none⟩), .int .i64 f, .int .i64 t] w fun e w' => e = .returned (.tuple #[.int .i64 (rqMoveE x f t).1, .int .i64 (rqMoveE x f t).2]) ∧ Turn (RqO b) w w' F (rqMoveS x f t) := by
  obtain ⟨r, g, hx, hi⟩ := id h
  refine u23 ?_
  rw [t23]
  refine ⟨(rqmay_ok hx f).mono ?_⟩
  rintro e w1 ⟨rfl, rfl⟩
  by_cases hf : inQ x f
  · rw [if_pos hf]
    refine ⟨_, rfl, fun g => by simp at g, fun _ => ⟨(rqmay_ok hx t).mono ?_⟩⟩
    rintro e w2 ⟨rfl, rfl⟩
    by_cases ht : inQ x t
    · rw [if_pos ht]
      refine ⟨_, rfl, fun g => by simp at g, fun _ => ⟨(rqlist_ok h f).mono ?_⟩⟩
      rintro e w3 ⟨p, d, rfl, hL⟩
      have hU := hL.U
      refine ⟨_, _, _, rfl, fun g1 => ?_, fun g1 => ⟨fun g2 => ?_, fun g2 => ?_⟩⟩
      · have g1 := eq_of_beq g1
        rw [rqMoveE, rqMoveS, if_pos ⟨hf, ht⟩, if_pos g1, if_neg (fun h => h.2.2.1 g1)]
        exact ⟨rfl, Turn.quiet h hU⟩
      · have g1 := ne_of_beq_false g1
        have g2 : listOf (rowQ x f).2 = [] := by
          rw [rqListE, if_pos hf] at g2
          exact List.eq_nil_of_length_eq_zero (by have := eq_of_beq g2; omega)
        rw [rqMoveE, rqMoveS, if_pos ⟨hf, ht⟩, if_neg g1, if_pos g2, if_neg (fun h => h.2.2.2.1 g2)]
        exact ⟨rfl, Turn.quiet h hU⟩
      · have g1 := ne_of_beq_false g1
        have e0 : rqListE x f = listOf (rowQ x f).2 := by rw [rqListE, if_pos hf]
        rw [e0] at g2 hL ⊢
        have g2 : listOf (rowQ x f).2 ≠ [] := fun e => by rw [e] at g2; simp at g2
        obtain ⟨i, hfl, rfl⟩ := inQ_at hf
        obtain ⟨j, htl, rfl⟩ := inQ_at ht
        have hij : i ≠ j := fun e => g1 (by rw [e])
        rw [rqMoveE, rqMoveS, if_pos ⟨hf, ht⟩, if_neg g1, if_neg g2]
        rw [rowQ_at hfl] at g2 hL ⊢
        rw [rowQ_at htl]
        have hVf := h.V hfl
        have hlp := List.length_pos_iff.2 g2
        have hll := list_all hVf
        have hVl := hVf.len
        have hmem : inE x[i] (endE (listOf x[i].2)) = true := (in_list hVf).1 (by rw [endE_at g2]; exact List.getElem_mem _)
        obtain ⟨a, ha, hc⟩ := hL.S.cells.at1 (i := (listOf x[i].2).length - 1) (by omega)
        rw [← endE_at g2] at hc
        obtain ⟨id, hid⟩ : ∃ id, endE (listOf x[i].2) = id := ⟨_, rfl⟩
        rw [hid] at hc hmem ⊢
        have ew : IntKind.wrap .i64 (((listOf x[i].2).length : Int) - 1) = (((listOf x[i].2).length - 1 : Nat) : Int) := by rw [w64 (by omega)]; omega
        rw [ew]
        have h3 : RqO b w3 F x := (Frame.rq b).upd h hU (fun _ _ h => h)
        have hTn : ∀ {w' s'}, Turn (RqO b) w3 w' F s' → Turn (RqO b) w2 w' F s' := fun hT => Turn.next h3 hU.none (fun _ h => .inl h) hT
        have hwh : whE x id = ((i : Int), true) := hi.whAt (by rw [memQ_at hfl]; exact hmem)
        refine ⟨⟨by omega, by omega⟩, a, ha, _, hc, ⟨(rqprio_ok h3 id).mono ?_⟩⟩
        rintro e w4 ⟨rfl, rfl⟩
        have hpr : rqPrioE x id = prioE x[i] id := by rw [rqPrioE, hwh]; simp [hfl, rowQ]
        rw [hpr]
        obtain ⟨r, g, hx3, hi3⟩ := h3
        obtain ⟨a3, c3, bt, F3, hB3, hcl3, hq3, kq3⟩ := rqx_q hx3 htl
        refine ⟨_, _, rfl, _, rfl, _, _, _, hB3.cell rfl, ⟨by omega, by omega⟩, a3, rfl, _, hcl3, ⟨(ppush_ok hq3 _ id).mono ?_⟩⟩
        rintro e w5 ⟨rfl, hT5⟩
        refine ⟨_, rfl, fun g3 => ?_, fun g3 => ?_⟩
        · have g3 : ¬ pqPushE x[j] (prioE x[i] id).1 id = 0 := by simpa using g3
          rw [if_neg g3, if_neg (fun h => g3 h.2.2.2.2)]
          have hT := kq3 _ _ hT5
          rw [pqPushS, if_neg g3, List.set_getElem_self] at hT
          exact ⟨rfl, hTn (Turn.rq hT hi3)⟩
        · have g3 : pqPushE x[j] (prioE x[i] id).1 id = 0 := by simpa using g3
          rw [if_pos g3, if_pos ⟨hf, ht, g1, g2, g3⟩]
          obtain ⟨F5, hx5, u5, f5⟩ := kq3 _ _ hT5
          have hfl5 : i < (x.set j (pqPushS x[j] (prioE x[i] id).1 id)).length := by simpa using hfl
          have ei : (x.set j (pqPushS x[j] (prioE x[i] id).1 id))[i] = x[i] := by rw [List.getElem_set_ne (Ne.symm hij)]
          obtain ⟨p5, c5, hB5⟩ := rqx_blk hx5
          obtain ⟨F6m, hm6, k6⟩ := rqx_map hx5
          obtain ⟨w6, hr6, ht6⟩ := run_put mpT hm6 id (j : Int)
          obtain ⟨F6, hx6, u6, f6⟩ := k6 _ _ ht6
          obtain ⟨a7, c7, bf, F7, hB7, hcl7, hq7, kq7⟩ := rqx_q hx6 hfl5
          rw [ei] at hq7
          have hl5 : (x.set j (pqPushS x[j] (prioE x[i] id).1 id)).length = x.length := by simp
          refine ⟨_, rfl, _, hB5.cell rfl, w6, hr6, _, rfl, _, _, _, hB7.cell rfl, ⟨by omega, by omega⟩, a7, rfl, _, hcl7, ⟨(pdrop_ok hq7 id).mono ?_⟩⟩
          rintro e w7 ⟨rfl, hT7⟩
          rw [hmem, if_pos rfl] at hT7
          refine ⟨_, rfl, by rw [pqDropE, hmem]; rfl, ?_⟩
          have T := Turn.glue (Upd.refl _ _) u5 f5 (Turn.glue (Upd.refl _ _) u6 f6 (kq7 _ _ hT7))
          exact hTn (Turn.rq T (hi3.move hfl htl hij (by rw [memQ_at hfl]; exact hmem) g3))
    · rw [if_neg ht]
      rw [rqMoveE, rqMoveS, if_neg (fun h => ht h.2), if_neg (fun h => ht h.2.1)]
      exact ⟨_, rfl, fun _ => ⟨rfl, Turn.same h⟩, fun g => by simp at g⟩
  · rw [if_neg hf]
    rw [rqMoveE, rqMoveS, if_neg (fun h => hf h.1), if_neg (fun h => hf h.1)]
    exact ⟨_, rfl, fun _ => ⟨rfl, Turn.same h⟩, fun g => by simp at g⟩
end
def okRq (n : Int) : Prop := 1 ≤ n ∧ n ≤ 64
theorem RqI.new {n : Nat} (h : 1 ≤ n ∧ n ≤ 64) : RqI (List.replicate n (32, [])) (fun _ => none) := by
  refine ⟨fun k v => ?_, fun q hq => ?_, by simpa using h⟩
  · constructor
    · intro h; cases h
    · rintro ⟨i, _, hi⟩
      have hl := memQ_lt hi
      rw [memQ_at hl] at hi
      simp at hi
      cases hi
  · have := List.eq_of_mem_replicate hq
    rw [this]
theorem rqnew_ok (n : Int) (w : World) : Calls Tryd.prog 5 #[.int .i64 n] w fun e w' =>
    (¬ okRq n ∧ e = .returned (.tuple #[.pointer none, .int .i64 2]) ∧ w' = w) ∨
    (okRq n ∧ ∃ b F, e = .returned (.tuple #[.pointer (some ⟨b, 0, none⟩), .int .i64 0]) ∧ RqO b w' F (List.replicate n.toNat (32, [])) ∧ Upd no w w' ∧ ∀ i, F i → w.heap.size ≤ i) := by
  refine u5 ?_
  rw [t5]
  unfold okRq
  refine ⟨fun h1 => ⟨fun h2 => .inl ⟨?_, rfl, rfl⟩, fun h2 => ⟨fun w1 hN1 => ⟨fun w2 hN2 => ?_⟩⟩⟩, fun h1 => .inl ⟨?_, rfl, rfl⟩⟩
  · simp at h2; omega
  · have h1 : ¬ n < 1 := by simpa using h1
    have h2 : ¬ 64 < n := by simpa using h2
    obtain ⟨m, rfl⟩ : ∃ m : Nat, n = m := ⟨n.toNat, by omega⟩
    have hM : Mine w w1 (MapO w.heap.size (Value.int .i64)) (fun _ => none, 0) := Mine.new (Upd.refl _ _) (hN1.upd no) (MapO.new hN1) (fun i hi => Nat.le_of_eq hi.symm)
    obtain ⟨r, hr⟩ : ∃ r, w.heap.size = r := ⟨_, rfl⟩
    rw [hr] at hM hN2
    replace hM : Mine w w2 (RqX w1.heap.size r) ((fun _ => none, 0), []) := hM.add (hN2.upd no) (Tq.nil hN2 rfl) (fun i hi => Nat.le_of_eq hi.symm)
    generalize w1.heap.size = b at hM ⊢
    clear hN1 hN2
    refine ⟨WP_loop okProg (M := M5) (σ := Nat) (fun j => e5_1 (some ⟨b, 0, none⟩) (m : Int) (j : Int)) (fun j w' => j ≤ m ∧ Mine w w' (RqX b r) ((fun _ => none, 0), List.replicate j (32, []))) (fun j _ => m - j) 0 ⟨rfl, rfl, rfl, trivial⟩ ⟨by omega, hM⟩ ?_⟩
    clear hM
    rintro j w3 ⟨j1, hM⟩
    rw [t5_1]
    refine ⟨fun g => ?_, fun g => ?_⟩
    · have hj : j < m := by simp at g; omega
      obtain ⟨F2, hA, hT⟩ := hM.right
      refine ⟨(pnew_ok 32 w3).mono ?_⟩
      rintro e w4 hh
      obtain ⟨_, bq, G, rfl, hQ, hU, hG⟩ := hh.resolve_left (fun h => absurd (by unfold okP9; decide) h.1)
      obtain ⟨p, c, hB, hput⟩ := Tq.push elPq (k := 0) (fun p n c p' n' c' => rfl) (fun _ _ _ => by simp [rqE]) hA (by simp; omega) (s := (32, [])) hU hQ hG
      refine ⟨_, _, rfl, fun g => by simp at g, fun _ => ⟨_, rfl, _, _, _, hB.cell rfl, ⟨fun w5 hN => ?_⟩⟩⟩
      obtain ⟨p', c', w6, hr, hW⟩ := hput w5 hN 52
      refine ⟨p', _, c', w6, hr, _, rfl, hW _ fun w7 hT7 => ?_⟩
      refine ⟨j + 1, ⟨rfl, rfl, by rw [w64 (by omega)]; rfl, trivial⟩, ⟨by omega, ?_⟩, by omega⟩
      have := hT _ _ hT7
      rw [List.replicate_succ']
      exact this
    · have : j = m := by simp at g; omega
      subst this
      obtain ⟨F, hF1, hF2, hF3⟩ := hM
      exact .inr ⟨by omega, b, F, rfl, ⟨r, _, hF1, RqI.new (by omega)⟩, hF2, hF3⟩
  · simp at h1; omega
end Go.Dav
