/- What the functions of the lock and of the pair come to. -/
import Derived.Test.YtcnnnioepabfiaaLst05
namespace Go.Dav
open Go.Proofs

def mayE (b : Bool) (cpu : Int) : Int := if b then (if cpu < 0 ∨ 64 ≤ cpu then 3 else 0) else 1
theorem may_ok (b : Bool) (cpu : Int) (w : World) : Calls Try.prog 27 #[.bool b, .int .i64 cpu] w fun e w' => e = .returned (.int .i64 (mayE b cpu)) ∧ w' = w := by
  refine u27 ?_
  rw [t27]
  grind [mayE]
theorem core_ok (cpu : Int) (w : World) : Calls Try.prog 29 #[.int .i64 cpu] w fun e w' => e = .returned (.bool (decide (0 ≤ cpu ∧ cpu < 64))) ∧ w' = w := by
  refine u29 ?_
  rw [t29]
  refine ⟨fun h => ⟨?_, rfl⟩, fun h => ⟨?_, rfl⟩⟩
  · have h : 0 ≤ cpu := by simpa using h
    simp [h]
  · have h : ¬ 0 ≤ cpu := by simpa using h
    simp [h]

abbrev LsO (T : TypeId) (b : Nat) : Ob (List Int × Option Addr × Nat) := Hd b T 3 1 (fun (l : List Int) p c => [.slice p l.length c]) List.length (fun l => l.map (Value.int .i64))
abbrev LkO (b : Nat) := LsO 25 b
abbrev RkO (b : Nat) := LsO 35 b

def out (cpu : Int) : Prop := cpu < 0 ∨ 64 ≤ cpu
instance (cpu : Int) : Decidable (out cpu) := inferInstanceAs (Decidable (_ ∨ _))
def takeE (l : List Int) (cpu : Int) : Int := if out cpu then 3 else if cpu ∈ l then 6 else 0
def takeL (l : List Int) (cpu : Int) : List Int := if takeE l cpu = 0 then l ++ [cpu] else l
def ownE (l : List Int) : Int × Bool := match l with
  | [] => (0, false)
  | x :: _ => (x, true)
def leaveE (l : List Int) (cpu : Int) : Int := if out cpu then 3 else match l with
  | [] => 17
  | x :: _ => if x = cpu then 0 else 17
def leaveL (l : List Int) (cpu : Int) : List Int := if leaveE l cpu = 0 then l.tail else l

section
variable {w : World} {F : Fp} {b : Nat} {T : TypeId} {l : List Int} {y : Option Addr × Nat}

theorem takeE_out {c : Int} (h : out c) : takeE l c = 3 ∧ takeL l c = l := by simp [takeL, takeE, h]
theorem takeE_in {c : Int} (h : ¬ out c) (h2 : c ∈ l) : takeE l c = 6 ∧ takeL l c = l := by simp [takeL, takeE, h, h2]
theorem takeE_new {c : Int} (h : ¬ out c) (h2 : c ∉ l) : takeE l c = 0 ∧ takeL l c = l ++ [c] := by simp [takeL, takeE, h, h2]
theorem may_out {c : Int} (h : (mayE true c != 0) = true) : out c ∧ mayE true c = 3 := by
  by_cases h2 : c < 0 ∨ 64 ≤ c
  · exact ⟨h2, by simp [mayE, h2]⟩
  · simp [mayE, h2] at h
theorem may_in {c : Int} (h : (mayE true c != 0) = false) : ¬ out c := fun h2 => by
  have h2 : c < 0 ∨ 64 ≤ c := h2
  simp [mayE, h2] at h

/-- The list has one more. -/
theorem LsO.append (h : LsO T b w F (l, y)) (hb : l.length ≤ 1048576) {x : Int} {w1 : World} (hN : Newed w w1 (.cells (List.toArray [Value.int .i64 x]) 3 (0, 0))) :
    ∃ p' c' w2, (Builtin.append_ #[22, 22] 22 #[.slice y.1 l.length y.2, .slice (some ⟨w.heap.size, 0, none⟩) 1 1]).run Try.prog w1 = .ok (.slice p' (l ++ [x]).length c') w2 ∧
      Blk w2 b [.slice y.1 l.length y.2] T ∧ ∀ w3, Wrote w2 w3 b [.slice p' (l ++ [x]).length c'] T → ∃ y', Turn (LsO T b) w w3 F (l ++ [x], y') := by
  obtain ⟨p', n', c', w2, hr, hn, hS, hU, hF⟩ := append1 elI h.sl hb hN 22
  subst hn
  exact ⟨p', c', w2, hr, h.blkU hU, fun w3 hW => ⟨(p', c'), h.put hS hU hF hW⟩⟩

theorem take_ok (h : LkO b w F (l, y)) (hb : l.length ≤ 1048576) (c : Int) :
    Calls Try.prog 8 #[.pointer (some ⟨b, 0, none⟩), .int .i64 c] w fun e w' => e = .returned (.int .i64 (takeE l c)) ∧ ∃ y', Turn (LkO b) w w' F (takeL l c, y') := by
  refine u8 ?_
  rw [t8]
  refine ⟨(may_ok _ c w).mono ?_⟩
  rintro e w' ⟨rfl, rfl⟩
  refine ⟨_, rfl, fun h1 => ?_, fun h1 => ?_⟩
  · obtain ⟨h2, h3⟩ := may_out h1
    obtain ⟨k1, k2⟩ := takeE_out (l := l) h2
    rw [k1, k2]
    exact ⟨by rw [← h3]; rfl, y, Turn.same h⟩
  · have h2 := may_in h1
    refine ⟨_, rfl, _, _, _, h.blk.cell rfl, ⟨(contains_ok h.sl.cells (Nat.le_trans hb (by omega)) c).mono ?_⟩⟩
    rintro e w' ⟨rfl, rfl⟩
    refine ⟨_, rfl, fun h3 => ?_, fun h3 => ?_⟩
    · obtain ⟨k1, k2⟩ := takeE_in h2 (by simpa using h3)
      rw [k1, k2]
      exact ⟨rfl, y, Turn.same h⟩
    · obtain ⟨k1, k2⟩ := takeE_new h2 (by simpa using h3)
      rw [k1, k2]
      refine ⟨_, rfl, _, _, _, h.blk.cell rfl, ⟨fun w1 hN => ?_⟩⟩
      obtain ⟨p', c', w2, hr, hB, hT⟩ := h.append hb hN
      exact ⟨p', _, c', w2, hr, _, rfl, hB.wr (by simp) (fun w3 hW => ⟨rfl, hT w3 hW⟩)⟩

theorem rtake_ok (h : RkO b w F (l, y)) (hb : l.length ≤ 1048576) (c : Int) :
    Calls Try.prog 13 #[.pointer (some ⟨b, 0, none⟩), .int .i64 c] w fun e w' => e = .returned (.int .i64 (takeE l c)) ∧ ∃ y', Turn (RkO b) w w' F (takeL l c, y') := by
  refine u13 ?_
  rw [t13]
  refine ⟨(core_ok c w).mono ?_⟩
  rintro e w' ⟨rfl, rfl⟩
  refine ⟨_, rfl, fun h1 => ?_, fun h1 => ?_⟩
  · obtain ⟨k1, k2⟩ := takeE_out (l := l) (c := c) (by simp at h1; unfold out; omega)
    rw [k1, k2]
    exact ⟨rfl, y, Turn.same h⟩
  · have h2 : ¬ out c := by simp at h1; unfold out; omega
    refine ⟨_, rfl, _, _, _, h.blk.cell rfl, ⟨(fHas_ok h.sl.cells (Nat.le_trans hb (by omega)) c).mono ?_⟩⟩
    rintro e w' ⟨rfl, rfl⟩
    refine ⟨_, rfl, fun h3 => ?_, fun h3 => ?_⟩
    · obtain ⟨k1, k2⟩ := takeE_in h2 (by simpa using h3)
      rw [k1, k2]
      exact ⟨rfl, y, Turn.same h⟩
    · obtain ⟨k1, k2⟩ := takeE_new h2 (by simpa using h3)
      rw [k1, k2]
      refine ⟨_, rfl, _, _, _, h.blk.cell rfl, ⟨fun w1 hN => ?_⟩⟩
      obtain ⟨p', c', w2, hr, hB, hT⟩ := h.append hb hN
      exact ⟨p', _, c', w2, hr, _, rfl, hB.wr (by simp) (fun w3 hW => ⟨rfl, hT w3 hW⟩)⟩

theorem owner_ok (h : LkO b w F (l, y)) : Calls Try.prog 9 #[.pointer (some ⟨b, 0, none⟩)] w fun e w' => e = .returned (.tuple #[.int .i64 (ownE l).1, .bool (ownE l).2]) ∧ w' = w := by
  refine u9 ?_
  rw [t9]
  refine ⟨fun _ => ⟨_, rfl, _, _, _, h.blk.cell rfl, fun h1 => ?_, fun h1 => ⟨_, rfl, _, _, _, h.blk.cell rfl, ?_⟩⟩, fun h1 => by simp at h1⟩
  · have : l = [] := by simpa using h1
    subst this
    exact ⟨rfl, rfl⟩
  · cases l with
    | nil => simp at h1
    | cons x l =>
      obtain ⟨a, ha, hc⟩ := h.sl.cells.at1 (l := x :: l) (i := 0) (by simp)
      exact ⟨⟨by omega, by simp⟩, a, ha, x, hc, rfl, rfl⟩
theorem ownerNil_ok (w : World) : Calls Try.prog 9 #[.pointer none] w fun e w' => e = .returned (.tuple #[.int .i64 0, .bool false]) ∧ w' = w := by
  refine u9 ?_
  rw [t9]
  exact ⟨fun h => by simp at h, fun _ => ⟨rfl, rfl⟩⟩

theorem leave_ok (h : LkO b w F (l, y)) (c : Int) :
    Calls Try.prog 10 #[.pointer (some ⟨b, 0, none⟩), .int .i64 c] w fun e w' => e = .returned (.int .i64 (leaveE l c)) ∧ ∃ y', Turn (LkO b) w w' F (leaveL l c, y') := by
  refine u10 ?_
  rw [t10]
  refine ⟨(may_ok _ c w).mono ?_⟩
  rintro e w' ⟨rfl, rfl⟩
  refine ⟨_, rfl, fun h1 => ?_, fun h1 => ⟨(owner_ok h).mono ?_⟩⟩
  · obtain ⟨h2, h3⟩ := may_out h1
    have k1 : leaveE l c = 3 := by simp [leaveE, h2]
    rw [leaveL, k1]
    exact ⟨by rw [← h3]; rfl, y, Turn.same h⟩
  · have h2 := may_in h1
    rintro e w' ⟨rfl, rfl⟩
    cases l with
    | nil =>
      have k1 : leaveE [] c = 17 := by simp [leaveE, h2]
      rw [leaveL, k1]
      exact ⟨_, _, rfl, fun h3 => by simp [ownE] at h3, fun _ => ⟨rfl, y, Turn.same h⟩⟩
    | cons x l =>
      refine ⟨_, _, rfl, fun _ => ⟨fun h4 => ?_, fun h4 => ?_⟩, fun h3 => by simp [ownE] at h3⟩
      · have k1 : leaveE (x :: l) c = 17 := by simp [ownE] at h4; simp [leaveE, h2, h4]
        rw [leaveL, k1]
        exact ⟨rfl, y, Turn.same h⟩
      · have k1 : leaveE (x :: l) c = 0 := by simp [ownE] at h4; simp [leaveE, h2, h4]
        rw [leaveL, k1, if_pos rfl, List.tail_cons]
        have hD := h.sl.dropN 1 (by simp)
        refine ⟨_, rfl, _, _, _, h.blk.cell rfl, ⟨by omega, by simp; omega⟩, _, rfl, ?_⟩
        refine h.blk.wr (by simp) (fun w3 hW => ⟨rfl, (subA y.1 y.2 1 1, y.2 - 1), ?_⟩)
        exact h.put (by simpa using hD) (Upd.refl _ _) (fun i hi => .inl (fpS_sub i hi)) hW

theorem wo_head {x : Int} {l : List Int} (h : (x :: l).Nodup) : wo (x :: l) x = l := by
  unfold wo
  rw [List.nodup_cons] at h
  simp only [List.filter_cons, ne_eq, not_true_eq_false, decide_false, Bool.false_eq_true, if_false]
  refine List.filter_eq_self.2 (fun a ha => ?_)
  simp only [decide_not, Bool.not_eq_true', decide_eq_false_iff_not]
  exact fun e => h.1 (e ▸ ha)

theorem rleave_ok (h : RkO b w F (l, y)) (hb : l.length ≤ 1048576) (hn : l.Nodup) (c : Int) :
    Calls Try.prog 12 #[.pointer (some ⟨b, 0, none⟩), .int .i64 c] w fun e w' => e = .returned (.int .i64 (leaveE l c)) ∧ ∃ y', Turn (RkO b) w w' F (leaveL l c, y') := by
  refine u12 ?_
  rw [t12]
  refine ⟨(core_ok c w).mono ?_⟩
  rintro e w' ⟨rfl, rfl⟩
  refine ⟨_, rfl, fun h1 => ?_, fun h1 => ⟨_, rfl, _, _, _, h.blk.cell rfl, ?_⟩⟩
  · have h2 : out c := by simp at h1; unfold out; omega
    have k1 : leaveE l c = 3 := by simp [leaveE, h2]
    rw [leaveL, k1]
    exact ⟨rfl, y, Turn.same h⟩
  · have h2 : ¬ out c := by simp at h1; unfold out; omega
    cases l with
    | nil =>
      have k1 : leaveE [] c = 17 := by simp [leaveE, h2]
      rw [leaveL, k1]
      exact ⟨fun h3 => by simp at h3, fun _ => ⟨rfl, y, Turn.same h⟩⟩
    | cons x l =>
      refine ⟨fun _ => ⟨_, rfl, _, _, _, h.blk.cell rfl, ⟨by omega, by simp⟩, ?_⟩, fun h3 => by simp at h3; omega⟩
      obtain ⟨a, ha, hc⟩ := h.sl.cells.at1 (l := x :: l) (i := 0) (by simp)
      refine ⟨a, ha, x, hc, fun h4 => ?_, fun h4 => ⟨_, rfl, _, _, _, h.blk.cell rfl, ⟨(fWithout_ok h.sl.cells hb c).mono ?_⟩⟩⟩
      · have k1 : leaveE (x :: l) c = 17 := by simp at h4; simp [leaveE, h2, h4]
        rw [leaveL, k1]
        exact ⟨rfl, y, Turn.same h⟩
      · have h4 : x = c := by simpa using h4
        subst h4
        have k1 : leaveE (x :: l) x = 0 := by simp [leaveE, h2]
        rw [leaveL, k1, if_pos rfl, List.tail_cons]
        rintro e w2 ⟨p', c', rfl, hL⟩
        rw [wo_head hn] at hL ⊢
        have hB := h.blk.upd hL.U id
        refine ⟨_, _, _, rfl, _, rfl, hB.wr (by simp) (fun w3 hW => ⟨rfl, (p', c'), ?_⟩)⟩
        exact h.put hL.S (hL.U.mono fun _ _ h => h.elim) (fun i hi => .inr (hL.F i hi)) hW

theorem waits_ok (h : LkO b w F (l, y)) (hb : l.length ≤ 1048576) : Calls Try.prog 15 #[.pointer (some ⟨b, 0, none⟩)] w fun e w' => ∃ p' c', e = .returned (.slice p' l.length c') ∧ Cells w' p' (l.map (Value.int .i64)) ∧ Upd no w w' := by
  refine u15 ?_
  rw [t15]
  refine ⟨fun h => by simp at h, fun _ => ⟨_, rfl, _, _, _, h.blk.cell rfl, ⟨(clone_ok h.sl.cells hb (fun e => ?_)).mono ?_⟩⟩⟩
  · have := h.sl
    rw [e] at this
    obtain ⟨h1, h2, h3, h4, h5⟩ := this
    exact ⟨List.eq_nil_of_length_eq_zero h4, h5⟩
  · rintro e w' ⟨p', c', rfl, k⟩
    exact ⟨_, _, _, rfl, p', c', rfl, k⟩
end
end Go.Dav
