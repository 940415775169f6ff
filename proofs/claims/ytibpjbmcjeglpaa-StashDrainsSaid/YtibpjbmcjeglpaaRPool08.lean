/- What the document's functions of the pool come to. -/
import Derived.Test.YtibpjbmcjeglpaaPool08
set_option linter.unusedSimpArgs false
set_option linter.unusedVariables false
namespace Go.Dav
open Go.Proofs
theorem elB : ElemT Try.prog 48 4 1 1 [.bool false] := ⟨by kernel_rfl, by kernel_rfl, rfl, by omega⟩

/-- The document's list: the place 0 is none's. -/
def rpB (pg : List Nat) : List Bool := false :: pg.flatMap bitsB
theorem bitsB_len (x : Nat) : (bitsB x).length = 8 := by simp [bitsB]
theorem fl_len {α β : Type} {f : α → List β} {sz : Nat} (hf : ∀ x, (f x).length = sz) (l : List α) : (l.flatMap f).length = l.length * sz := by
  induction l with
  | nil => simp
  | cons x l ih => rw [List.flatMap_cons, List.length_append, hf, ih, List.length_cons, Nat.add_mul, Nat.one_mul, Nat.add_comm]
theorem fl_at {α β : Type} {f : α → List β} {sz : Nat} (hf : ∀ x, (f x).length = sz) : ∀ {l : List α} {i j : Nat} (hi : i < l.length), j < sz → (l.flatMap f)[i * sz + j]? = (f l[i])[j]?
  | x :: l, 0, j, _, h => by
    simp only [List.flatMap_cons, Nat.zero_mul, Nat.zero_add]
    rw [List.getElem?_append_left (by rw [hf]; exact h)]
    rfl
  | x :: l, i + 1, j, hi, h => by
    simp only [List.flatMap_cons]
    rw [List.getElem?_append_right (by rw [hf, Nat.add_mul, Nat.one_mul]; omega), hf, Nat.add_mul, Nat.one_mul, show i * sz + sz + j - sz = i * sz + j by omega]
    exact fl_at hf (by simpa using hi) h
theorem fl_set {α β : Type} {f : α → List β} {sz : Nat} (hf : ∀ x, (f x).length = sz) : ∀ {l : List α} {i j : Nat} {v : β} {x : α} (hi : i < l.length), j < sz → f x = (f l[i]).set j v → (l.flatMap f).set (i * sz + j) v = (l.set i x).flatMap f
  | y :: l, 0, j, v, x, _, h, hx => by
    simp only [List.flatMap_cons, Nat.zero_mul, Nat.zero_add, List.set_cons_zero]
    rw [List.set_append_left _ _ (by rw [hf]; exact h), hx]
    rfl
  | y :: l, i + 1, j, v, x, hi, h, hx => by
    simp only [List.flatMap_cons, List.set_cons_succ]
    rw [List.set_append_right _ _ (by rw [hf, Nat.add_mul, Nat.one_mul]; omega), hf, Nat.add_mul, Nat.one_mul, show i * sz + sz + j - sz = i * sz + j by omega]
    rw [fl_set hf (by simpa using hi) h (by simpa using hx)]
theorem fresh8 (m : Nat) : (List.replicate m 0).flatMap bitsB = List.replicate (8 * m) false := by
  induction m with
  | zero => rfl
  | succ m ih =>
    rw [List.replicate_succ, List.flatMap_cons, ih, show 8 * (m + 1) = 8 + 8 * m by omega, ← List.replicate_append_replicate]
    rfl
theorem rpB_len (pg : List Nat) : (rpB pg).length = 8 * pg.length + 1 := by
  unfold rpB
  rw [List.length_cons, fl_len bitsB_len, Nat.mul_comm]
section
variable {pg : List Nat} {i k : Nat}
theorem rpB_at (hi : i < pg.length) (hk : k < 8) : (rpB pg)[8 * i + k + 1]? = some (pg[i].testBit k) := by
  unfold rpB
  rw [List.getElem?_cons_succ, Nat.mul_comm, fl_at bitsB_len hi hk]
  simp [bitsB, hk]
theorem rpB_get (hi : i < pg.length) (hk : k < 8) (h : 8 * i + k + 1 < (rpB pg).length) : (rpB pg)[8 * i + k + 1] = pg[i].testBit k := by
  have := rpB_at hi hk
  rw [List.getElem?_eq_getElem h] at this
  exact Option.some.inj this
theorem rpB_set (hi : i < pg.length) (hk : k < 8) {x : Nat} {v : Bool} (hx : bitsB x = (bitsB pg[i]).set k v) : (rpB pg).set (8 * i + k + 1) v = rpB (pg.set i x) := by
  unfold rpB
  rw [List.set_cons_succ, Nat.mul_comm, fl_set bitsB_len hi hk hx]
end

def rpE (pg : List Nat) (p : Option Addr) (c : Nat) : List Value := [.slice p (8 * pg.length + 1) c]
abbrev RpH (b : Nat) : Ob (List Nat × Option Addr × Nat) := Hd b 58 4 1 rpE (fun pg => 8 * pg.length + 1) (fun pg => (rpB pg).map Value.bool)
def RpO (b : Nat) : Ob (List Nat) := fun w F x => ∃ y, RpH b w F (x, y) ∧ PgOk x
instance Frame.rp (b : Nat) : Frame (RpO b) where
  upd := fun ⟨y, h, r⟩ k hG => ⟨y, (Frame.hd ..).upd h k hG, r⟩
  lt := fun ⟨_, h, _⟩ => (Frame.hd ..).lt h

section
variable {w : World} {F : Fp} {b : Nat} {pg : List Nat}

/-- One of the list's places. -/
theorem RpO.at (h : RpO b w F pg) : ∃ p c, w.cell? ((⟨b, 0, none⟩ : Addr).add 0) = some (.slice p (8 * pg.length + 1) c) ∧ (∀ (j : Nat) (hj : j < (rpB pg).length), ∃ a, p = some a ∧ w.cell? (a.add (j * 1)) = some (.bool (rpB pg)[j])) ∧
    ∀ {i k : Nat} {v : Bool} {x : Nat} (hi : i < pg.length) (_ : k < 8) (_ : x < 256) (_ : bitsB x = (bitsB pg[i]).set k v) {K : World → Prop}, (∀ w', Turn (RpO b) w w' F (pg.set i x) → K w') → ∃ a, p = some a ∧ Wr w (a.add ((8 * i + k + 1) * 1)) [.bool v] K := by
  obtain ⟨y, h1, h2⟩ := h
  refine ⟨y.1, y.2, h1.blk.cell rfl, fun j hj => h1.sl.cells.at1 hj, fun {i k v x} hi hk hx hb {K} hK => ?_⟩
  have hj : 8 * i + k + 1 < (rpB pg).length := by rw [rpB_len]; omega
  obtain ⟨a, ha, _⟩ := h1.sl.cells.at1 hj
  refine ⟨a, ha, ?_⟩
  have hS := h1.sl
  simp only at ha hS
  rw [ha] at hS
  refine hS.wr (o := (8 * i + k + 1) * 1) (by simp; omega) fun w' hS' hU => hK w' ?_
  rw [Nat.mul_one, setL_set hj, rpB_set hi hk hb] at hS'
  obtain ⟨F', t1, t2, t3⟩ := h1.elems (w' := w') (s' := pg.set i x) (by simp only [List.length_set]; rw [ha]; exact hS') (by rw [ha]; exact hU) (by unfold rpE; rw [List.length_set])
  exact ⟨F', ⟨y, t1, h2.set i hx⟩, t2, t3⟩

theorem rnew_ok (n : Int) (w : World) : Calls Try.prog 24 #[.int .i64 n] w fun e w' =>
    (¬ (1 ≤ n ∧ n ≤ 12) ∧ e = .returned (.tuple #[.pointer none, .int .i64 2]) ∧ w' = w) ∨
    ((1 ≤ n ∧ n ≤ 12) ∧ ∃ b F, e = .returned (.tuple #[.pointer (some ⟨b, 0, none⟩), .int .i64 0]) ∧ RpO b w' F (List.replicate n.toNat 0) ∧ Upd no w w' ∧ ∀ i, F i → w.heap.size ≤ i) := by
  refine u24 ?_
  rw [t24]
  refine ⟨fun h1 => ⟨fun h2 => .inl ⟨?_, rfl, rfl⟩, fun h2 => ?_⟩, fun h1 => .inl ⟨?_, rfl, rfl⟩⟩
  · simp at h2; omega
  · have h1 : ¬ n < 1 := by simpa using h1
    have h2 : ¬ 12 < n := by simpa using h2
    obtain ⟨m, rfl⟩ : ∃ m : Nat, n = m := ⟨n.toNat, by omega⟩
    have e0 : IntKind.wrap .i64 (IntKind.wrap .i64 (8 * (m : Int)) + 1) = ((8 * m + 1 : Nat) : Int) := by rw [w64 (x := 8 * (m : Int)) (by omega), w64 (by omega)]; omega
    rw [e0]
    obtain ⟨w1, hr, hU, hL⟩ := run_mkV (f := Value.bool) (x0 := false) elB w (n := 8 * m + 1) (by omega) (by omega) .i64 .i64
    refine ⟨_, _, _, w1, hr, ⟨fun w2 hN => .inr ⟨by omega, w1.heap.size, fun i => i = w1.heap.size ∨ fpS (some ⟨w.heap.size, 0, none⟩) i, rfl, ⟨(some ⟨w.heap.size, 0, none⟩, 8 * m + 1), ⟨?_, ?_, ?_, fun _ => Iff.rfl⟩, ⟨by simp; omega, fun x hx => ?_⟩⟩, hU.and (hN.upd no), ?_⟩⟩⟩
    · show Blk w2 w1.heap.size (rpE (List.replicate (Int.toNat (m : Int)) 0) _ (8 * m + 1)) _
      unfold rpE
      rw [List.length_replicate, Int.toNat_natCast]
      exact hN.blk'
    · have hS := hL.2.upd (hN.upd no) fun _ _ h => h
      have e1 : rpB (List.replicate (Int.toNat (m : Int)) 0) = List.replicate (8 * m + 1) false := by
        unfold rpB
        rw [List.replicate_succ, Int.toNat_natCast]
        rw [fresh8]
      simp only [List.length_replicate, Int.toNat_natCast] at hS ⊢
      rw [Int.toNat_natCast] at e1
      rw [e1]
      exact hS
    · rintro ⟨a, ha, hb⟩
      cases ha
      have := hU.size
      have := hL.2.lt _ ⟨_, rfl, rfl⟩
      simp only at hb this
      omega
    · have := List.eq_of_mem_replicate hx; omega
    · rintro i (rfl | ⟨a, ha, rfl⟩)
      · exact hU.size
      · cases ha; exact Nat.le_refl _
  · simp at h1; omega

theorem rout_ok (h : RpO b w F pg) (id : Int) : Calls Try.prog 33 #[.pointer (some ⟨b, 0, none⟩), .int .i64 id] w fun e w' => e = .returned (.bool (outE pg id)) ∧ w' = w := by
  refine u33 ?_
  rw [t33]
  obtain ⟨p, c, hc, hat, _⟩ := h.at
  refine ⟨fun g => ⟨_, rfl, _, _, _, hc, fun g2 => ?_, fun g2 => ⟨?_, rfl⟩⟩, fun g => ⟨?_, rfl⟩⟩
  · have hin : inP pg id := by unfold inP; simp at g g2; omega
    obtain ⟨i, k, hi, hk, rfl⟩ := in_split hin
    have hj : 8 * i + k + 1 < (rpB pg).length := by rw [rpB_len]; omega
    obtain ⟨a, ha, hv⟩ := hat _ hj
    refine ⟨_, rfl, _, _, _, hc, ⟨by omega, by omega⟩, a, ha, _, hv, ?_, rfl⟩
    rw [out_of hi hk, rpB_get hi hk hj]
  · rw [outE, if_neg]
    unfold inP; simp at g2; omega
  · rw [outE, if_neg]
    unfold inP; simp at g; omega

theorem rgive_ok (h : RpO b w F pg) (id : Int) : Calls Try.prog 41 #[.pointer (some ⟨b, 0, none⟩), .int .i64 id] w fun e w' => e = .returned (.int .i64 (giveE pg id)) ∧ Turn (RpO b) w w' F (giveS pg id) := by
  refine u41 ?_
  rw [t41]
  refine ⟨(rout_ok h id).mono ?_⟩
  rintro e w' ⟨rfl, rfl⟩
  refine ⟨_, rfl, fun g => ?_, fun g => ?_⟩
  · have g : ¬ outE pg id = true := by simpa using g
    rw [giveE, giveS, if_neg g, if_neg g]
    exact ⟨rfl, Turn.same h⟩
  · have g : outE pg id = true := by simpa using g
    have hin : inP pg id := by unfold outE at g; split at g <;> first | assumption | cases g
    obtain ⟨i, k, hi, hk, rfl⟩ := in_split hin
    obtain ⟨y, _, hp⟩ := id h
    obtain ⟨p, c, hc, hat, hwr⟩ := h.at
    have o := ops8 _ (hp.at hi) k hk
    have := hwr hi hk o.2.2.2.2.1 o.2.2.2.2.2.2 (K := fun w'' => Ending.returned (.int .i64 0) = Ending.returned (.int .i64 (giveE pg ((8 * i + k + 1 : Nat) : Int))) ∧ Turn (RpO b) w' w'' F (giveS pg ((8 * i + k + 1 : Nat) : Int))) (fun w'' hT => by
      rw [giveE, if_pos g, give_of hi hk, if_pos (by rw [← out_of hi hk]; exact g)]
      exact ⟨rfl, hT⟩)
    obtain ⟨a, ha, hW⟩ := this
    exact ⟨_, rfl, _, _, _, hc, ⟨by omega, by omega⟩, a, ha, hW⟩

theorem taken_ok (h : RpO b w F pg) {i : Nat} (hi : i < pg.length) : Calls Try.prog 49 #[.pointer (some ⟨b, 0, none⟩), .int .i64 (i : Int)] w fun e w' => e = .returned (.int .i64 (oc8 pg[i] : Int)) ∧ w' = w := by
  obtain ⟨y, _, hp⟩ := id h
  have hl := hp.len
  obtain ⟨p, c, hc, hat, _⟩ := h.at
  refine u49 ?_
  rw [t49]
  have e8 : IntKind.wrap .i64 (8 * (i : Int)) = ((8 * i : Nat) : Int) := by rw [w64 (by omega)]; omega
  refine ⟨WP_loop okProg (M := M49) (σ := Nat) (fun j => e49_1 (some ⟨b, 0, none⟩) (i : Int) (cnt pg[i] j : Int) ((8 * i + j + 1 : Nat) : Int)) (fun j w' => j ≤ 8 ∧ w' = w) (fun j _ => 8 - j) 0
    ⟨rfl, rfl, rfl, by rw [e8, w64 (by omega)]; rfl, trivial⟩ ⟨by omega, rfl⟩ ?_⟩
  rintro j w' ⟨h1, rfl⟩
  rw [t49_1, e8, w64 (x := ((8 * i : Nat) : Int) + 8) (by omega)]
  have hcs := cnt_succ pg[i] j
  have hcl := cnt_le pg[i] j
  refine ⟨fun g => ?_, fun g => ?_⟩
  · have hj : j < 8 := by simp at g; omega
    have hk : 8 * i + j + 1 < (rpB pg).length := by rw [rpB_len]; omega
    obtain ⟨a, ha, hv⟩ := hat _ hk
    rw [rpB_get hi hj hk] at hv
    have e2 : IntKind.wrap .i64 (((8 * i + j + 1 : Nat) : Int) + 1) = ((8 * i + (j + 1) + 1 : Nat) : Int) := by rw [w64 (by omega)]; omega
    rw [e2]
    refine ⟨_, rfl, _, _, _, hc, ⟨by omega, by omega⟩, a, ha, _, hv, fun g2 => ?_, fun g2 => ?_⟩
    · rw [if_pos g2] at hcs
      rw [w64 (x := (cnt pg[i] j : Int) + 1) (by omega)]
      exact ⟨j + 1, ⟨rfl, rfl, by rw [hcs]; rfl, rfl, trivial⟩, ⟨by omega, rfl⟩, by omega⟩
    · rw [if_neg (by simp [g2])] at hcs
      exact ⟨j + 1, ⟨rfl, rfl, by rw [hcs]; rfl, rfl, trivial⟩, ⟨by omega, rfl⟩, by omega⟩
  · have : j = 8 := by simp at g; omega
    subst this
    exact ⟨rfl, rfl⟩

theorem rfreeP_ok (h : RpO b w F pg) {i : Nat} (hi : i < pg.length) (hne : pg[i] ≠ 255) : Calls Try.prog 50 #[.pointer (some ⟨b, 0, none⟩), .int .i64 (i : Int)] w fun e w' => e = .returned (.int .i64 ((8 * i + z8 pg[i] + 1 : Nat) : Int)) ∧ Turn (RpO b) w w' F (pg.set i (ior pg[i] (z8 pg[i]))) := by
  obtain ⟨y, _, hp⟩ := id h
  have hl := hp.len
  obtain ⟨p, c, hc, hat, hwr⟩ := h.at
  have hx := hp.at hi
  refine u50 ?_
  rw [t50]
  have e8 : IntKind.wrap .i64 (8 * (i : Int)) = ((8 * i : Nat) : Int) := by rw [w64 (by omega)]; omega
  refine ⟨WP_loop okProg (M := M50) (σ := Nat) (fun j => e50_1 (some ⟨b, 0, none⟩) (i : Int) ((8 * i + j + 1 : Nat) : Int)) (fun j w' => j ≤ 8 ∧ (∀ k, k < j → pg[i].testBit k = true) ∧ w' = w) (fun j _ => 8 - j) 0
    ⟨rfl, rfl, by rw [e8, w64 (by omega)]; rfl, trivial⟩ ⟨by omega, fun k hk => by omega, rfl⟩ ?_⟩
  rintro j w' ⟨h1, h2, rfl⟩
  rw [t50_1, e8, w64 (x := ((8 * i : Nat) : Int) + 8) (by omega)]
  refine ⟨fun g => ?_, fun g => ?_⟩
  · have hj : j < 8 := by simp at g; omega
    have hk : 8 * i + j + 1 < (rpB pg).length := by rw [rpB_len]; omega
    obtain ⟨a, ha, hv⟩ := hat _ hk
    rw [rpB_get hi hj hk] at hv
    have e2 : IntKind.wrap .i64 (((8 * i + j + 1 : Nat) : Int) + 1) = ((8 * i + (j + 1) + 1 : Nat) : Int) := by rw [w64 (by omega)]; omega
    rw [e2]
    refine ⟨_, rfl, _, _, _, hc, ⟨by omega, by omega⟩, a, ha, _, hv, fun g2 => ?_, fun g2 => ?_⟩
    · have g2 : pg[i].testBit j = false := by simpa using g2
      have hz := low8 _ hx j hj g2 h2
      have o := ops8 _ hx j hj
      subst hz
      have := hwr hi hj o.2.2.2.1 o.2.2.2.2.2.1 (K := fun w'' => Ending.returned (.int .i64 ((8 * i + z8 pg[i] + 1 : Nat) : Int)) = Ending.returned (.int .i64 ((8 * i + z8 pg[i] + 1 : Nat) : Int)) ∧ Turn (RpO b) w' w'' F (pg.set i (ior pg[i] (z8 pg[i])))) (fun w'' hT => ⟨rfl, hT⟩)
      obtain ⟨a', ha', hW⟩ := this
      exact ⟨_, rfl, _, _, _, hc, ⟨by omega, by omega⟩, a', ha', hW⟩
    · have g2 : pg[i].testBit j = true := by simpa using g2
      exact ⟨j + 1, ⟨rfl, rfl, rfl, trivial⟩, ⟨by omega, fun k hk => by
        by_cases hkj : k = j
        · subst hkj; exact g2
        · exact h2 k (by omega), rfl⟩, by omega⟩
  · have : j = 8 := by simp at g; omega
    subst this
    exact absurd (all8 _ hx h2) hne

theorem rtake_ok (h : RpO b w F pg) : Calls Try.prog 39 #[.pointer (some ⟨b, 0, none⟩)] w fun e w' => e = .returned (.tuple #[.int .i64 (takeE pg).1, .int .i64 (takeE pg).2]) ∧ Turn (RpO b) w w' F (takeS pg) := by
  obtain ⟨y, _, hp⟩ := id h
  have hl := hp.len
  obtain ⟨p, c, hc, _, _⟩ := h.at
  refine u39 ?_
  rw [t39]
  have e0 : IntKind.wrap .i64 (Int.tdiv ((8 * pg.length + 1 : Nat) : Int) 8) = (pg.length : Int) := by rw [Int.tdiv_eq_ediv_of_nonneg (by omega), w64 (by omega)]; omega
  refine ⟨_, rfl, _, _, _, hc, by decide, ?_⟩
  rw [e0]
  have two : (∀ i (hi : i < pg.length), p1 pg[i] = false) → CutD Try.prog M39 c39_0 (e39_0 (some ⟨b, 0, none⟩) (pg.length : Int)) w (k39_0 fun e w' => e = .returned (.tuple #[.int .i64 (takeE pg).1, .int .i64 (takeE pg).2]) ∧ Turn (RpO b) w w' F (takeS pg)) := by
    intro hn1
    refine CutD.mk ?_
    rw [t39_0]
    refine ⟨WP_loop okProg (M := M39) (σ := Nat) (fun j => e39_3 (some ⟨b, 0, none⟩) (pg.length : Int) (j : Int)) (fun j w' => j ≤ pg.length ∧ (∀ i (hi : i < pg.length), i < j → p2 pg[i] = false) ∧ w' = w) (fun j _ => pg.length - j) 0 ⟨rfl, rfl, rfl, trivial⟩ ⟨by omega, fun i _ h => by omega, rfl⟩ ?_⟩
    rintro j w' ⟨h1, h2, rfl⟩
    rw [t39_3]
    refine ⟨fun g => ?_, fun g => ?_⟩
    · have hj : j < pg.length := by simpa using g
      have o := one8 _ (hp.at hj)
      refine ⟨(taken_ok h hj).mono ?_⟩
      rintro e w1 ⟨rfl, rfl⟩
      refine ⟨_, rfl, fun g2 => ?_, fun g2 => ?_⟩
      · have g2 : pg[j] = 0 := o.2.1.1 (by simpa using g2)
        have hP : takeP pg = some j := by
          unfold takeP
          rw [fi_none hn1, fi_some hj h2 (by simp [p2, g2])]
        have hg : pg.getD j 0 = pg[j] := by simp [hj]
        refine ⟨(rfreeP_ok h hj (by omega)).mono ?_⟩
        rintro e w2 ⟨rfl, hT⟩
        simp only [takeE, takeS, hP, hg]
        exact ⟨_, rfl, rfl, hT⟩
      · have g2 : p2 pg[j] = false := by
          have : pg[j] ≠ 0 := fun e => by have := o.2.1.2 e; rw [this] at g2; simp at g2
          simp [p2, this]
        refine ⟨j + 1, ⟨rfl, rfl, by rw [w64 (by omega)]; rfl, trivial⟩, ⟨by omega, fun i hi hij => ?_, rfl⟩, by omega⟩
        by_cases hij' : i = j
        · subst hij'; exact g2
        · exact h2 i hi (by omega)
    · have : j = pg.length := by simp at g; omega
      subst this
      have hP : takeP pg = none := by
        unfold takeP
        rw [fi_none hn1, fi_none fun i hi => h2 i hi hi]
      simp only [takeE, takeS, hP]
      exact ⟨by trivial, Turn.same h⟩
  refine ⟨WP_loop okProg (M := M39) (σ := Nat) (fun j => e39_2 (some ⟨b, 0, none⟩) (pg.length : Int) (j : Int)) (fun j w' => j ≤ pg.length ∧ (∀ i (hi : i < pg.length), i < j → p1 pg[i] = false) ∧ w' = w) (fun j _ => pg.length - j) 0 ⟨rfl, rfl, rfl, trivial⟩ ⟨by omega, fun i _ h => by omega, rfl⟩ ?_⟩
  rintro j w' ⟨h1, h2, rfl⟩
  rw [t39_2]
  refine ⟨fun g => ?_, fun g => ?_⟩
  · have hj : j < pg.length := by simpa using g
    have o := one8 _ (hp.at hj)
    have hle := oc8_le pg[j]
    have go : p1 pg[j] = false → ∃ j' : Nat, CoversL [(0, SV.v (Value.pointer (some ⟨b, 0, none⟩))), (4, SV.v (Value.int IntKind.i64 (pg.length : Int))), (5, SV.v (Value.int IntKind.i64 (IntKind.wrap IntKind.i64 ((j : Int) + (1 : Int)))))] (e39_2 (some ⟨b, 0, none⟩) (pg.length : Int) (j' : Int)) ∧ (j' ≤ pg.length ∧ (∀ i (hi : i < pg.length), i < j' → p1 pg[i] = false) ∧ w' = w') ∧ pg.length - j' < pg.length - j := fun g2 =>
      ⟨j + 1, ⟨rfl, rfl, by rw [w64 (by omega)]; rfl, trivial⟩, ⟨by omega, fun i hi hij => by
        by_cases hij' : i = j
        · subst hij'; exact g2
        · exact h2 i hi (by omega), rfl⟩, by omega⟩
    refine ⟨(taken_ok h hj).mono ?_⟩
    rintro e w1 ⟨rfl, rfl⟩
    refine ⟨_, rfl, fun g2 => ⟨(taken_ok h hj).mono ?_⟩, fun g2 => ?_⟩
    · rintro e w1 ⟨rfl, rfl⟩
      have g2 : pg[j] ≠ 0 := fun e => by have := o.2.1.2 e; rw [this] at g2; simp at g2
      refine ⟨_, rfl, fun g3 => ?_, fun g3 => ?_⟩
      · have g3 : pg[j] ≠ 255 := fun e => by have := o.2.2.1.2 e; rw [this] at g3; simp at g3
        have hP : takeP pg = some j := by
          unfold takeP
          rw [fi_some hj h2 (by simp [p1, g2, g3])]
        have hg : pg.getD j 0 = pg[j] := by simp [hj]
        refine ⟨(rfreeP_ok h hj g3).mono ?_⟩
        rintro e w2 ⟨rfl, hT⟩
        simp only [takeE, takeS, hP, hg]
        exact ⟨_, rfl, rfl, hT⟩
      · have g3 : pg[j] = 255 := o.2.2.1.1 (by simp at g3; omega)
        exact go (by simp [p1, g3])
    · have g2 : pg[j] = 0 := o.2.1.1 (by simp at g2; omega)
      exact go (by simp [p1, g2])
  · have : j = pg.length := by simp at g; omega
    subst this
    exact two fun i hi => h2 i hi hi

theorem count8 : ∀ x : Nat, x < 256 → ∀ j : Nat, j ≤ 8 → (List.range j).countP (fun k => !x.testBit k) + cnt x j = j := by decide +kernel
/-- How many of the first places are free. -/
def frN (pg : List Nat) (j : Nat) : Nat := ((rpB pg).drop 1 |>.take j).countP (fun x => !x)
theorem frN_succ (pg : List Nat) {j : Nat} (h : j + 1 < (rpB pg).length) : frN pg (j + 1) = frN pg j + if (rpB pg)[j + 1] then 0 else 1 := by
  unfold frN
  have hj : j < ((rpB pg).drop 1).length := by simp; omega
  rw [List.take_succ_eq_append_getElem hj, List.countP_append, List.countP_singleton]
  have e : ((rpB pg).drop 1)[j] = (rpB pg)[j + 1] := by simp [Nat.add_comm]
  rw [e]
  cases (rpB pg)[j + 1] <;> simp
theorem frN_all {pg : List Nat} (hp : ∀ x ∈ pg, x < 256) : frN pg (8 * pg.length) = freeN pg := by
  have h1 : frN pg (8 * pg.length) = (pg.flatMap bitsB).countP (fun x => !x) := by
    unfold frN rpB
    rw [List.drop_one, List.tail_cons, List.take_of_length_le (by rw [fl_len bitsB_len]; omega)]
  rw [h1]
  unfold freeN
  have hs := sum_le (pg := pg) oc8 oc8_le
  have : (pg.flatMap bitsB).countP (fun x => !x) + (pg.map oc8).sum = 8 * pg.length := by
    clear h1 hs
    induction pg with
    | nil => rfl
    | cons x l ih =>
      have ih := ih fun y hy => hp y (by simp [hy])
      have hx := count8 x (hp x (by simp)) 8 (by omega)
      have e : (bitsB x).countP (fun x => !x) = (List.range 8).countP (fun k => !x.testBit k) := by unfold bitsB; rw [List.countP_map]; rfl
      have e2 : cnt x 8 = oc8 x := rfl
      rw [List.flatMap_cons, List.countP_append, e, List.map_cons, List.sum_cons, List.length_cons]
      omega
  omega
theorem rfree_ok (h : RpO b w F pg) : Calls Try.prog 15 #[.pointer (some ⟨b, 0, none⟩)] w fun e w' => e = .returned (.int .i64 (freeN pg : Int)) ∧ w' = w := by
  obtain ⟨y, _, hp⟩ := id h
  have hl := hp.len
  obtain ⟨p, c, hc, hat, _⟩ := h.at
  refine u15 ?_
  rw [t15]
  refine ⟨WP_loop okProg (M := M15) (σ := Nat) (fun j => e15_1 (some ⟨b, 0, none⟩) (frN pg j : Int) ((j + 1 : Nat) : Int)) (fun j w' => j ≤ 8 * pg.length ∧ w' = w) (fun j _ => 8 * pg.length - j) 0 ⟨rfl, rfl, rfl, trivial⟩ ⟨by omega, rfl⟩ ?_⟩
  rintro j w' ⟨h1, rfl⟩
  rw [t15_1]
  have hle : frN pg j ≤ j := Nat.le_trans List.countP_le_length (by simp; omega)
  refine ⟨_, rfl, _, _, _, hc, fun g => ?_, fun g => ?_⟩
  · have hj : j < 8 * pg.length := by simp at g; omega
    have hk : j + 1 < (rpB pg).length := by rw [rpB_len]; omega
    obtain ⟨a, ha, hv⟩ := hat _ hk
    have hs := frN_succ pg hk
    have e2 : IntKind.wrap .i64 (((j + 1 : Nat) : Int) + 1) = ((j + 1 + 1 : Nat) : Int) := by rw [w64 (by omega)]; omega
    rw [e2]
    refine ⟨_, rfl, _, _, _, hc, ⟨by omega, by omega⟩, a, ha, _, hv, fun g2 => ?_, fun g2 => ?_⟩
    · have g2 : (rpB pg)[j + 1] = false := by simpa using g2
      rw [g2] at hs
      rw [w64 (x := (frN pg j : Int) + 1) (by omega)]
      exact ⟨j + 1, ⟨rfl, by rw [hs]; rfl, rfl, trivial⟩, ⟨by omega, rfl⟩, by omega⟩
    · have g2 : (rpB pg)[j + 1] = true := by simpa using g2
      rw [g2] at hs
      exact ⟨j + 1, ⟨rfl, by rw [hs]; rfl, rfl, trivial⟩, ⟨by omega, rfl⟩, by omega⟩
  · have : j = 8 * pg.length := by simp at g; omega
    subst this
    rw [frN_all hp.lt]
    exact ⟨rfl, rfl⟩
end
end Go.Dav
