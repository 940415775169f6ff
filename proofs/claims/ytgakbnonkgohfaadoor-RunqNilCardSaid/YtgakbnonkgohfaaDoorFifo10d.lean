/- What the functions of the queue of numbers come to. -/
import Derived.Test.YtgakbnonkgohfaaDoorLst10d
import Derived.Test.YtgakbnonkgohfaaDoorRing
import Derived.Test.YtgakbnonkgohfaaDoorMk
set_option linter.unusedSimpArgs false
set_option linter.unusedVariables false
namespace Go.Dav
open Go.Proofs

def fqE (g : Ring) (p : Option Addr) (c : Nat) : List Value := [.slice p g.r.length c, .int .i64 g.f, .int .i64 g.m]
abbrev RO (b : Nat) : Ob (Ring × Option Addr × Nat) := Hd b 91 3 1 fqE (fun g => g.r.length) (fun g => g.r.map (Value.int .i64))
/-- A queue: how many there may be, and the numbers in it. -/
def FqO (b : Nat) : Ob (Nat × List Int) := fun w F x => ∃ g y, RO b w F (g, y) ∧ g.ok ∧ g.r.length = x.1 ∧ view g = x.2 ∧ x.2.Nodup
instance Frame.fq (b : Nat) : Frame (FqO b) where
  upd := fun ⟨g, y, h, r⟩ k hG => ⟨g, y, (Frame.hd ..).upd h k hG, r⟩
  lt := fun ⟨_, _, h, _⟩ => (Frame.hd ..).lt h

def pushE (x : Nat × List Int) (n : Int) : Int := if n ∈ x.2 then 6 else if x.2.length = x.1 then 5 else 0
def pushS (x : Nat × List Int) (n : Int) : Nat × List Int := if pushE x n = 0 then (x.1, x.2 ++ [n]) else x
def frontE (x : Nat × List Int) : Int × Int := match x.2 with
  | [] => (0, 12)
  | a :: _ => (a, 0)
def popS (x : Nat × List Int) : Nat × List Int := (x.1, x.2.tail)
def dropE (x : Nat × List Int) (n : Int) : Int := if n ∈ x.2 then 0 else 4
def dropS (x : Nat × List Int) (n : Int) : Nat × List Int := (x.1, x.2.erase n)
def turnE (x : Nat × List Int) : Int := (frontE x).2
def turnS (x : Nat × List Int) : Nat × List Int := match x.2 with
  | [] => x
  | a :: l => (x.1, l ++ [a])

section
variable {w : World} {F : Fp} {b : Nat} {x : Nat × List Int} {g : Ring} {y : Option Addr × Nat}

theorem FqO.len (h : FqO b w F x) : x.2.length ≤ x.1 ∧ x.1 ≤ 1024 ∧ 0 < x.1 := by
  obtain ⟨g, y, h1, h2, h3, h4, h5⟩ := h
  rw [← h3, ← h4, view_length]
  exact ⟨h2.m, h2.le, h2.pos⟩

theorem new_ok (n : Int) (w : World) : Calls Tryd.prog 51 #[.int .i64 n] w fun e w' =>
    (¬ (1 ≤ n ∧ n ≤ 1024) ∧ e = .returned (.tuple #[.pointer none, .int .i64 2]) ∧ w' = w) ∨
    ((1 ≤ n ∧ n ≤ 1024) ∧ ∃ b F, e = .returned (.tuple #[.pointer (some ⟨b, 0, none⟩), .int .i64 0]) ∧ FqO b w' F (n.toNat, []) ∧ Upd no w w' ∧ ∀ i, F i → w.heap.size ≤ i) := by
  refine u51 ?_
  rw [t51]
  refine ⟨fun h1 => ⟨fun h2 => .inl ⟨?_, rfl, rfl⟩, fun h2 => ?_⟩, fun h1 => .inl ⟨?_, rfl, rfl⟩⟩
  · simp at h2; omega
  · have h1 : ¬ n < 1 := by simpa using h1
    have h2 : ¬ 1024 < n := by simpa using h2
    obtain ⟨m, rfl⟩ : ∃ m : Nat, n = m := ⟨n.toNat, by omega⟩
    obtain ⟨w1, hr, hN⟩ := run_mkI elI w (n := m) (by omega) (by omega) .i64 .i64
    refine ⟨_, _, _, w1, hr, ⟨fun w2 hN2 => .inr ⟨by omega, w1.heap.size, fun i => i = w1.heap.size ∨ fpS (some ⟨w.heap.size, 0, none⟩) i, rfl, ?_, (hN.upd no).and (hN2.upd no), ?_⟩⟩⟩
    · refine ⟨⟨List.replicate m 0, 0, 0⟩, (some ⟨w.heap.size, 0, none⟩, m), ⟨?_, ?_, ?_, fun _ => Iff.rfl⟩, ⟨?_, ?_, ?_, ?_⟩, ?_, view_fresh m, List.nodup_nil⟩
      · show Blk w2 w1.heap.size (fqE ⟨List.replicate m 0, 0, 0⟩ _ m) _
        unfold fqE
        rw [List.length_replicate]
        exact hN2.blk'
      · simp only [List.length_replicate]
        exact (Sl.new hN (by simp) (by unfold maxLen; omega)).upd (hN2.upd no) (fun _ _ h => h)
      · rintro ⟨a, ha, hb⟩
        cases ha
        have := hN.size
        simp only at hb
        omega
      · simp; omega
      · simp; omega
      · simp; omega
      · simp
      · simp
    · rintro i (rfl | ⟨a, ha, rfl⟩)
      · have := hN.size; omega
      · cases ha; exact Nat.le_refl _
  · simp at h1; omega

theorem at_ok (h : RO b w F (g, y)) (hk : g.ok) {k : Nat} (hm : k ≤ g.r.length) : Calls Tryd.prog 75 #[.pointer (some ⟨b, 0, none⟩), .int .i64 k] w fun e w' => e = .returned (.int .i64 (pl g.r.length g.f k : Nat)) ∧ Upd no w w' := by
  refine u75 ?_
  rw [t75]
  intro w1 q1 q2 q3 q4
  have hU := Upd.same no q1 q2 q3 q4
  have hB := h.blk.upd hU id
  have h1 := hk.f
  have h2 := hk.le
  refine ⟨_, rfl, _, hB.cell rfl, _, rfl, _, _, _, hB.cell rfl, ?_, ?_, hU⟩
  · simp only; omega
  · simp only
    rw [w64 (by omega), ← pl_mod h1 hm, Int.tmod_eq_emod_of_nonneg (by omega)]
    simp

theorem list_ok (h : RO b w F (g, y)) (hk : g.ok) : Calls Tryd.prog 59 #[.pointer (some ⟨b, 0, none⟩)] w fun e w' => ∃ p c, e = .returned (.slice p (view g).length c) ∧ Loc w w' 3 p c (view g) := by
  refine u59 ?_
  rw [t59]
  refine ⟨fun _ => ⟨_, rfl, _, h.blk.cell rfl, fun h1 => ?_, fun h1 => ⟨_, rfl, _, h.blk.cell rfl, ?_⟩⟩, fun h1 => by simp at h1⟩
  · have h1 : g.m = 0 := by simpa using h1
    have hv : view g = [] := List.eq_nil_of_length_eq_zero (by rw [view_length]; exact h1)
    rw [hv]
    exact ⟨none, 0, rfl, Loc.nil (Upd.refl _ _) _⟩
  · have hle := hk.le
    have hm := hk.m
    have hf := hk.f
    obtain ⟨w1, hr, hN⟩ := run_mkI elI w (n := g.m) (by omega) (by omega) .i64 .i64
    refine ⟨_, _, _, w1, hr, ?_⟩
    intro w2 q1 q2 q3 q4
    have hU := (hN.upd no).and (Upd.same no q1 q2 q3 q4)
    have hB := h.blk.upd hU id
    have hS0 : Sl w1 3 1 (some ⟨w.heap.size, 0, none⟩) g.m g.m ((List.replicate g.m (0 : Int)).map (Value.int .i64)) := Sl.new hN (by simp) (by unfold maxLen; omega)
    have hS := hS0.upd (Upd.same no q1 q2 q3 q4) (fun _ _ h => h)
    have hR := h.sl.upd hU (fun _ _ h => h)
    have hD := hR.dropN g.f (by simp only; omega)
    refine ⟨_, rfl, _, _, _, hB.cell rfl, _, rfl, _, hB.cell rfl, ⟨by omega, by simp only; omega⟩, ?_⟩
    obtain ⟨w3, hr3, hS3, hU3⟩ := run_copy elI hS hD.cells (sn := g.r.length - g.f) (sc := y.2 - g.f) (by simp) (fun u hu => by obtain ⟨v, _, rfl⟩ := List.mem_map.1 (List.mem_of_mem_drop hu); rfl) 3
    refine ⟨_, w3, hr3, ?_⟩
    intro w4 q1 q2 q3 q4
    have hU4 := hU3.trans (Upd.same no q1 q2 q3 q4) (fun _ _ h => h.elim)
    have hnew : ∀ i, i < w.heap.size → ¬ fpS (some ⟨w.heap.size, 0, none⟩) i := by
      rintro i hi ⟨a, ha, rfl⟩
      cases ha
      exact Nat.lt_irrefl _ hi
    have hUw : Upd no w w4 := hU.trans hU4 (fun i hi hf => absurd hf (hnew i hi))
    have hB4 := h.blk.upd hUw id
    have hR4 := h.sl.upd hUw (fun _ _ h => h)
    have hS4 := hS3.upd (Upd.same no q1 q2 q3 q4) (fun _ _ h => h)
    refine ⟨⟨by omega, by omega⟩, _, rfl, _, _, _, hB4.cell rfl, ?_⟩
    obtain ⟨w5, hr5, hS5, hU5⟩ := run_copyAt elI hS4 hR4.cells (sn := g.r.length) (sc := y.2) (by simp) (by simp [Value.oneCell']) 3 (k := min (g.r.length - g.f) g.m) (by omega)
    refine ⟨_, w5, hr5, some ⟨w.heap.size, 0, none⟩, g.m, by rw [view_length], hUw.trans hU5 (fun i hi hf => absurd hf (hnew i hi)), ?_, ?_⟩
    · rw [view_length]
      have := ring_copy hk (Value.int .i64)
      simp only [Nat.mul_one] at hS5
      rw [this] at hS5
      exact hS5
    · rintro i ⟨a, ha, rfl⟩
      cases ha
      exact Nat.le_refl _
theorem qlist_ok (h : FqO b w F x) : Calls Tryd.prog 59 #[.pointer (some ⟨b, 0, none⟩)] w fun e w' => ∃ p c, e = .returned (.slice p x.2.length c) ∧ Cells w' p (x.2.map (Value.int .i64)) ∧ Upd no w w' := by
  obtain ⟨g, y, h1, h2, h3, h4, h5⟩ := h
  refine (list_ok h1 h2).mono ?_
  rintro e w' ⟨p, c, rfl, hL⟩
  rw [h4] at hL ⊢
  exact ⟨p, c, rfl, hL.S.cells, hL.U⟩
theorem qlistL_ok (h : FqO b w F x) : Calls Tryd.prog 59 #[.pointer (some ⟨b, 0, none⟩)] w fun e w' => ∃ p c, e = .returned (.slice p x.2.length c) ∧ Loc w w' 3 p c x.2 := by
  obtain ⟨g, y, h1, h2, h3, h4, h5⟩ := h
  refine (list_ok h1 h2).mono ?_
  rintro e w' ⟨p, c, rfl, hL⟩
  rw [h4] at hL ⊢
  exact ⟨p, c, rfl, hL⟩
theorem listNil_ok (w : World) : Calls Tryd.prog 59 #[.pointer none] w fun e w' => e = .returned (.slice none 0 0) ∧ w' = w := by
  refine u59 ?_
  rw [t59]
  exact ⟨fun h => by simp at h, fun _ => ⟨rfl, rfl⟩⟩

theorem qlen_ok (h : FqO b w F x) : Calls Tryd.prog 72 #[.pointer (some ⟨b, 0, none⟩)] w fun e w' => e = .returned (.int .i64 x.2.length) ∧ w' = w := by
  obtain ⟨g, y, h1, h2, h3, h4, h5⟩ := h
  refine u72 ?_
  rw [t72]
  exact ⟨fun h => by simp at h, fun _ => ⟨_, rfl, _, h1.blk.cell rfl, by rw [← h4, view_length], rfl⟩⟩
theorem qhas_ok (h : FqO b w F x) (n : Int) : Calls Tryd.prog 74 #[.pointer (some ⟨b, 0, none⟩), .int .i64 n] w fun e w' => e = .returned (.bool (decide (n ∈ x.2))) ∧ Upd no w w' := by
  have hl := h.len
  refine u74 ?_
  rw [t74]
  refine ⟨(qlist_ok h).mono ?_⟩
  rintro e w' ⟨p, c, rfl, hC, hU⟩
  refine ⟨_, _, _, rfl, ⟨(contains_ok hC (by omega) n).mono ?_⟩⟩
  rintro e w' ⟨rfl, rfl⟩
  exact ⟨_, rfl, rfl, hU⟩
theorem qfront_ok (h : FqO b w F x) : Calls Tryd.prog 65 #[.pointer (some ⟨b, 0, none⟩)] w fun e w' => e = .returned (.tuple #[.int .i64 (frontE x).1, .int .i64 (frontE x).2]) ∧ Upd no w w' := by
  obtain ⟨g, y, h1, h2, h3, h4, h5⟩ := h
  obtain ⟨xc, xl⟩ := x
  simp only at h3 h4 h5
  refine u65 ?_
  rw [t65]
  refine ⟨fun h => by simp at h, fun _ => ⟨_, rfl, _, h1.blk.cell rfl, fun k1 => ?_, fun k1 => ?_⟩⟩
  · have k1 : g.m = 0 := by simpa using k1
    have hv : xl = [] := by rw [← h4]; exact List.eq_nil_of_length_eq_zero (by rw [view_length]; exact k1)
    subst hv
    exact ⟨rfl, Upd.refl _ _⟩
  · have k1 : g.m ≠ 0 := by simp at k1; omega
    intro w1 q1 q2 q3 q4
    have hU := Upd.same no q1 q2 q3 q4
    have hB := h1.blk.upd hU id
    have hS := h1.sl.upd hU (fun _ _ h => h)
    have hf := h2.f
    obtain ⟨a, ha, hc⟩ := hS.cells.at1 (l := g.r) (i := g.f) hf
    refine ⟨_, rfl, _, _, _, hB.cell rfl, _, rfl, _, hB.cell rfl, ⟨by omega, by simp only; omega⟩, a, ha, _, hc, ?_, hU⟩
    cases xl with
    | nil => rw [← List.length_eq_zero_iff, view_length] at h4; omega
    | cons v l =>
      obtain ⟨_, k2, _⟩ := view_front h2 h4
      show _ = Ending.returned (.tuple #[.int .i64 v, .int .i64 0])
      rw [← k2]
      simp [List.getD_eq_getElem?_getD, hf]

theorem qpush_ok (h : FqO b w F x) (n : Int) : Calls Tryd.prog 67 #[.pointer (some ⟨b, 0, none⟩), .int .i64 n] w fun e w' => e = .returned (.int .i64 (pushE x n)) ∧ Turn (FqO b) w w' F (pushS x n) := by
  refine u67 ?_
  rw [t67]
  refine ⟨fun h => by simp at h, fun _ => ⟨(qhas_ok h n).mono ?_⟩⟩
  rintro e w1 ⟨rfl, hU1⟩
  refine ⟨_, rfl, fun k1 => ?_, fun k1 => ?_⟩
  · have k1 : n ∈ x.2 := by simpa using k1
    have e1 : pushE x n = 6 := by simp [pushE, k1]
    rw [pushS, e1]
    exact ⟨rfl, Turn.quiet h hU1⟩
  · have k1 : n ∉ x.2 := by simpa using k1
    obtain ⟨g, y, h1, h2, h3, h4, h5⟩ := id h
    intro w2 q1 q2 q3 q4
    have hU2 := hU1.and (Upd.same no q1 q2 q3 q4)
    have hB := h1.blk.upd hU2 id
    have hm := h2.m
    have hle := h2.le
    refine ⟨_, rfl, _, hB.cell rfl, _, rfl, _, _, _, hB.cell rfl, fun k2 => ?_, fun k2 => ?_⟩
    · have k2 : g.m = g.r.length := by simp at k2; omega
      have e1 : pushE x n = 5 := by
        have : x.2.length = x.1 := by rw [← h4, view_length, ← h3, k2]
        simp [pushE, k1, this]
      rw [pushS, e1]
      exact ⟨rfl, Turn.quiet h hU2⟩
    · have k2 : g.m < g.r.length := by simp at k2; omega
      have e1 : pushE x n = 0 := by
        have : x.2.length ≠ x.1 := by rw [← h4, view_length, ← h3]; omega
        simp [pushE, k1, this]
      rw [pushS, e1, if_pos rfl]
      intro w3 q1 q2 q3 q4
      have hU3 := hU2.and (Upd.same no q1 q2 q3 q4)
      have hB3 := h1.blk.upd hU3 id
      have hR3 : RO b w3 F (g, y) := (Frame.hd ..).upd h1 hU3 (fun _ _ h => h)
      refine ⟨_, rfl, _, _, _, hB3.cell rfl, _, rfl, _, hB3.cell rfl, ⟨(at_ok hR3 h2 h2.m).mono ?_⟩⟩
      rintro e w4 ⟨rfl, hU4⟩
      have hU5 := hU3.and hU4
      have hB4 := h1.blk.upd hU5 id
      have hR4 : RO b w4 F (g, y) := (Frame.hd ..).upd h1 hU5 (fun _ _ h => h)
      have hpl := pl_lt h2.f h2.m
      have hS4 := hR4.sl
      obtain ⟨a, ha, _⟩ := hS4.cells.at1 (l := g.r) (i := 0) h2.pos
      simp only at ha hS4
      refine ⟨_, rfl, hB4.cell rfl, ⟨by omega, by simp only; omega⟩, a, ha, ?_⟩
      rw [ha] at hS4
      refine hS4.wr (o := pl g.r.length g.f g.m * 1) (by simp; omega) (fun w5 hS5 hU6 => ?_)
      have hB5 := hR4.blkU (w1 := w5) (by rw [ha]; exact hU6)
      refine ⟨_, rfl, _, hB5.cell rfl, _, rfl, hB5.wr (by simp [fqE]) (fun w6 hW => ⟨rfl, ?_⟩)⟩
      have hset : setL (g.r.map (Value.int .i64)) (pl g.r.length g.f g.m * 1) [.int .i64 n] = (g.r.set (pl g.r.length g.f g.m) n).map (Value.int .i64) := by
        rw [Nat.mul_one]
        exact setL_set hpl
      rw [hset] at hS5
      have hT : Turn (RO b) w4 w6 F (⟨g.r.set (pl g.r.length g.f g.m) n, g.f, g.m + 1⟩, y) := by
        refine hR4.put (p' := y.1) (c' := y.2) (w1 := w5) ?_ (by rw [ha]; exact hU6) (fun i hi => .inl hi) ?_
        · simp only [List.length_set]
          rw [ha]; exact hS5
        · have hW' := hW
          simp only [fqE, List.length_set]
          rw [w64 (by omega)] at hW'
          exact hW'
      obtain ⟨F', t1, t2, t3⟩ := hT
      refine ⟨F', ⟨_, y, t1, ⟨?_, ?_, ?_, ?_⟩, ?_, ?_, ?_⟩, (hU5.mono (fun _ _ h => h.elim)).trans t2 (fun _ _ h => h), fun i hi => (t3 i hi).imp id (fun h => Nat.le_trans hU5.size h)⟩
      · simp only [List.length_set]; exact h2.pos
      · simp only [List.length_set]; exact h2.le
      · simp only [List.length_set]; exact h2.f
      · simp only [List.length_set]; omega
      · simp only [List.length_set]; exact h3
      · rw [view_push h2 k2, h4]
      · exact List.nodup_append.2 ⟨h5, by simp, fun a ha b hb => by simp at hb; subst hb; exact fun e => k1 (e ▸ ha)⟩

theorem qpop_ok (h : FqO b w F x) : Calls Tryd.prog 73 #[.pointer (some ⟨b, 0, none⟩)] w fun e w' => e = .returned (.tuple #[.int .i64 (frontE x).1, .int .i64 (frontE x).2]) ∧ Turn (FqO b) w w' F (popS x) := by
  refine u73 ?_
  rw [t73]
  refine ⟨(qfront_ok h).mono ?_⟩
  rintro e w1 ⟨rfl, hU1⟩
  obtain ⟨xc, xl⟩ := x
  cases xl with
  | nil => exact ⟨_, _, rfl, fun k => by simp [frontE] at k, fun _ => ⟨rfl, Turn.quiet h hU1⟩⟩
  | cons v l =>
    obtain ⟨g, y, h1, h2, h3, h4, h5⟩ := id h
    simp only at h3 h4 h5
    obtain ⟨k1, k2, k3⟩ := view_front h2 h4
    have hR : RO b w1 F (g, y) := (Frame.hd ..).upd h1 hU1 (fun _ _ h => h)
    have hm := h2.m
    have hle := h2.le
    refine ⟨_, _, rfl, fun _ => ⟨(at_ok hR h2 (k := 1) h2.pos).mono ?_⟩, fun k => by simp [frontE] at k⟩
    rintro e w2 ⟨rfl, hU2⟩
    have hU := hU1.and hU2
    have hR2 : RO b w2 F (g, y) := (Frame.hd ..).upd h1 hU (fun _ _ h => h)
    refine ⟨_, rfl, _, rfl, hR2.blk.wr (by simp [fqE]) (fun w3 hW3 => ⟨_, rfl, _, hW3.blk'.cell rfl, _, rfl, hW3.blk'.wr (by simp [fqE, setL]) (fun w4 hW4 => ⟨rfl, ?_⟩)⟩)⟩
    have hT : Turn (RO b) w2 w4 F (⟨g.r, pl g.r.length g.f 1, g.m - 1⟩, y) := by
      refine ⟨F, ⟨?_, hR2.sl.upd (hW3.U.and hW4.U) (fun i hi e => hR2.2.2.1 (e ▸ hi)), hR2.2.2.1, hR2.2.2.2⟩, (hW3.U.and hW4.U).mono (fun i _ hi => (hR2.2.2.2 i).2 (.inl hi)), fun _ hi => .inl hi⟩
      have := hW4.blk'
      rw [w64 (x := (g.m : Int) - 1) (by omega)] at this
      show Blk w4 b [.slice y.1 g.r.length y.2, .int .i64 (pl g.r.length g.f 1 : Nat), .int .i64 ((g.m - 1 : Nat) : Int)] _
      rw [show ((g.m - 1 : Nat) : Int) = (g.m : Int) - 1 by omega]
      exact this
    obtain ⟨F', t1, t2, t3⟩ := hT
    exact ⟨F', ⟨_, y, t1, ⟨h2.pos, h2.le, pl_lt h2.f h2.pos, by simp only; omega⟩, h3, k3, (List.nodup_cons.1 h5).2⟩, (hU.mono (fun _ _ h => h.elim)).trans t2 (fun _ _ h => h), fun i hi => (t3 i hi).imp id (fun h => Nat.le_trans hU.size h)⟩
theorem qturn_ok (h : FqO b w F x) : Calls Tryd.prog 66 #[.pointer (some ⟨b, 0, none⟩)] w fun e w' => e = .returned (.int .i64 (turnE x)) ∧ Turn (FqO b) w w' F (turnS x) := by
  refine u66 ?_
  rw [t66]
  have hl := h.len
  have hnd : x.2.Nodup := by obtain ⟨_, _, _, _, _, _, h5⟩ := h; exact h5
  refine ⟨(qpop_ok h).mono ?_⟩
  rintro e w1 ⟨rfl, F', t1, t2, t3⟩
  obtain ⟨xc, xl⟩ := x
  cases xl with
  | nil => exact ⟨_, _, rfl, fun _ => ⟨rfl, F', t1, t2, t3⟩, fun k => by simp [frontE] at k⟩
  | cons v l =>
    refine ⟨_, _, rfl, fun k => by simp [frontE] at k, fun _ => ⟨(qpush_ok t1 _).mono ?_⟩⟩
    rintro e w2 ⟨rfl, F2, r1, r2, r3⟩
    simp only at hl hnd
    rw [List.nodup_cons] at hnd
    have e1 : pushE (popS (xc, v :: l)) (frontE (xc, v :: l)).1 = 0 := by
      simp only [List.length_cons] at hl
      have : l.length ≠ xc := by omega
      simp [pushE, popS, frontE, hnd.1, this]
    refine ⟨_, rfl, by rw [e1]; rfl, ?_⟩
    rw [pushS, e1, if_pos rfl] at r1
    refine ⟨F2, r1, t2.trans r2 (fun i hi hf => (t3 i hf).elim id (fun h => absurd h (by omega))), fun i hi => ?_⟩
    rcases r3 i hi with h | h
    · exact t3 i h
    · exact .inr (Nat.le_trans t2.size h)
end
end Go.Dav
