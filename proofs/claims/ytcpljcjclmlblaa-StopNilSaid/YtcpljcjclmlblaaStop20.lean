/- What the functions of cores that are to stand still come to. -/
import Derived.Test.YtcpljcjclmlblaaMsk20
import Derived.Test.YtcpljcjclmlblaaObj
namespace Go.Dav
open Go.Proofs

def stE (s : BV × BV) : List Value := [.int .u64 (mi s.1), .int .u64 (mi s.2)]
abbrev StO (b : Nat) : Ob (BV × BV) := Rw b 27 stE
def rsE (s : Bool × BV × BV) : List Value := [.bool s.1, .int .u64 (mi s.2.1), .int .u64 (mi s.2.2)]
abbrev RsO (b : Nat) : Ob (Bool × BV × BV) := Rw b 39 rsE

def sLeft (s : BV × BV) : BV := s.1 &&& ~~~ s.2
def sBegin (s : BV × BV) (m : BV) : Int × (BV × BV) := if s.1 = 0 then (if m = 0 then (2, s) else (0, (m, 0))) else (7, s)
def sAck (s : BV × BV) (c : Int) : Int × (BV × BV) := if hs (sLeft s) c = true then (0, (s.1, wi s.2 c)) else (6, s)
def sFree (s : BV × BV) : Int × (BV × BV) := if s.1 = 0 then (6, s) else (0, (0, 0))
def rBegin (s : Bool × BV × BV) (m : BV) : Int × (Bool × BV × BV) := if s.1 = true then (7, s) else if m = 0 then (2, s) else (0, (true, m, 0))
def rMust (s : Bool × BV × BV) (c : Int) : Bool := s.1 && hs s.2.1 c && !hs s.2.2 c
def rAck (s : Bool × BV × BV) (c : Int) : Int × (Bool × BV × BV) := if rMust s c = true then (0, (s.1, s.2.1, wi s.2.2 c)) else (6, s)
def rFree (s : Bool × BV × BV) : Int × (Bool × BV × BV) := if s.1 = true then (0, (false, s.2)) else (6, s)
def rLeft (s : Bool × BV × BV) : BV := if s.1 = true then s.2.1 &&& ~~~ s.2.2 else 0

section
variable {w : World} {F : Fp} {b : Nat} {s : BV × BV} {r : Bool × BV × BV}

theorem on_ok (h : StO b w F s) : Calls Try.prog 17 #[.pointer (some ⟨b, 0, none⟩)] w fun e w' => e = .returned (.bool (!(s.1 == 0))) ∧ w' = w := by
  refine u17 ?_
  rw [t17]
  exact ⟨fun _ => ⟨_, rfl, _, h.blk.cell rfl, by rw [mi_bne0], rfl⟩, fun h => by simp at h⟩
theorem onNil_ok (w : World) : Calls Try.prog 17 #[.pointer none] w fun e w' => e = .returned (.bool false) ∧ w' = w := by
  refine u17 ?_
  rw [t17]
  exact ⟨fun h => by simp at h, fun _ => ⟨rfl, rfl⟩⟩

theorem left_ok (h : StO b w F s) : Calls Try.prog 12 #[.pointer (some ⟨b, 0, none⟩)] w fun e w' => e = .returned (.int .u64 (mi (sLeft s))) ∧ Upd no w w' := by
  refine u12 ?_
  rw [t12]
  refine ⟨fun h => by simp at h, fun _ w1 q1 q2 q3 q4 => ?_⟩
  have hU := Upd.same no q1 q2 q3 q4
  have hB := h.blk.upd hU id
  refine ⟨_, rfl, _, hB.cell rfl, _, rfl, _, hB.cell rfl, ⟨(mNot_ok _ _ w1).mono ?_⟩⟩
  rintro e w' ⟨rfl, rfl⟩
  exact ⟨_, rfl, rfl, hU⟩
theorem leftNil_ok (w : World) : Calls Try.prog 12 #[.pointer none] w fun e w' => e = .returned (.int .u64 0) ∧ w' = w := by
  refine u12 ?_
  rw [t12]
  exact ⟨fun _ => ⟨rfl, rfl⟩, fun h => by simp at h⟩

theorem must_ok (h : StO b w F s) (c : Int) : Calls Try.prog 18 #[.pointer (some ⟨b, 0, none⟩), .int .i64 c] w fun e w' => e = .returned (.bool (hs (sLeft s) c)) ∧ Upd no w w' := by
  refine u18 ?_
  rw [t18]
  refine ⟨(left_ok h).mono ?_⟩
  rintro e w' ⟨rfl, hU⟩
  refine ⟨_, rfl, ⟨(mHas_ok _ _ w').mono ?_⟩⟩
  rintro e w' ⟨rfl, rfl⟩
  exact ⟨_, rfl, rfl, hU⟩
theorem mustNil_ok (c : Int) (w : World) : Calls Try.prog 18 #[.pointer none, .int .i64 c] w fun e w' => e = .returned (.bool false) ∧ w' = w := by
  refine u18 ?_
  rw [t18]
  refine ⟨(leftNil_ok w).mono ?_⟩
  rintro e w' ⟨rfl, rfl⟩
  refine ⟨_, rfl, ⟨(mHas_ok 0 _ w').mono ?_⟩⟩
  rintro e w' ⟨rfl, rfl⟩
  exact ⟨_, rfl, by rw [hs_zero], rfl⟩

theorem held_ok (h : StO b w F s) (c : Int) : Calls Try.prog 20 #[.pointer (some ⟨b, 0, none⟩), .int .i64 c] w fun e w' => e = .returned (.bool (hs s.2 c)) ∧ w' = w := by
  refine u20 ?_
  rw [t20]
  refine ⟨fun _ => ⟨_, rfl, _, h.blk.cell rfl, ⟨(mHas_ok _ _ w).mono ?_⟩⟩, fun h => by simp at h⟩
  rintro e w' ⟨rfl, rfl⟩
  exact ⟨_, rfl, rfl, rfl⟩
theorem heldNil_ok (c : Int) (w : World) : Calls Try.prog 20 #[.pointer none, .int .i64 c] w fun e w' => e = .returned (.bool false) ∧ w' = w := by
  refine u20 ?_
  rw [t20]
  exact ⟨fun h => by simp at h, fun _ => ⟨rfl, rfl⟩⟩

def sReady (s : BV × BV) : Bool := !(s.1 == 0) && (sLeft s == 0)
theorem ready_ok (h : StO b w F s) : Calls Try.prog 11 #[.pointer (some ⟨b, 0, none⟩)] w fun e w' => e = .returned (.bool (sReady s)) ∧ Upd no w w' := by
  refine u11 ?_
  rw [t11]
  refine ⟨(on_ok h).mono ?_⟩
  rintro e w' ⟨rfl, rfl⟩
  refine ⟨_, rfl, fun h1 => ⟨(left_ok h).mono ?_⟩, fun h1 => ⟨by rw [sReady, h1, Bool.false_and], Upd.refl _ _⟩⟩
  rintro e w' ⟨rfl, hU⟩
  exact ⟨_, rfl, by rw [mi_beq0, sReady, h1, Bool.true_and], hU⟩
theorem readyNil_ok (w : World) : Calls Try.prog 11 #[.pointer none] w fun e w' => e = .returned (.bool false) ∧ w' = w := by
  refine u11 ?_
  rw [t11]
  refine ⟨(onNil_ok w).mono ?_⟩
  rintro e w' ⟨rfl, rfl⟩
  exact ⟨_, rfl, (fun h => by cases h), fun _ => ⟨rfl, rfl⟩⟩

theorem begin_ok (h : StO b w F s) (m : BV) : Calls Try.prog 6 #[.pointer (some ⟨b, 0, none⟩), .int .u64 (mi m)] w fun e w' => e = .returned (.int .i64 (sBegin s m).1) ∧ Turn (StO b) w w' F (sBegin s m).2 := by
  refine u6 ?_
  rw [t6]
  refine ⟨fun h => by simp at h, fun _ => ⟨(on_ok h).mono ?_⟩⟩
  rintro e w' ⟨rfl, rfl⟩
  refine ⟨_, rfl, fun h1 => ?_, fun h1 => ⟨fun h2 => ?_, fun h2 => ?_⟩⟩
  · have h1 : s.1 ≠ 0 := by simpa using h1
    simp only [sBegin, if_neg h1]
    exact ⟨trivial, Turn.same h⟩
  · have h1 : s.1 = 0 := by simpa using h1
    have h2 : m = 0 := by rw [mi_beq0] at h2; simpa using h2
    simp only [sBegin, if_pos h1, if_pos h2]
    exact ⟨trivial, Turn.same h⟩
  · have h1 : s.1 = 0 := by simpa using h1
    have h2 : m ≠ 0 := by rw [mi_beq0] at h2; simpa using h2
    simp only [sBegin, if_pos h1, if_neg h2]
    exact ⟨_, rfl, h.blk.wr (by simp [stE]) fun w1 k1 => ⟨_, rfl, k1.blk'.wr (by simp [stE, setL]) fun w2 k2 => ⟨trivial, h.turned (k1.U.and k2.U) k2.blk'⟩⟩⟩
theorem beginNil_ok (n : Int) (w : World) : Calls Try.prog 6 #[.pointer none, .int .u64 n] w fun e w' => e = .returned (.int .i64 1) ∧ w' = w := by
  refine u6 ?_
  rw [t6]
  exact ⟨fun _ => ⟨rfl, rfl⟩, fun h => by simp at h⟩

theorem ack_ok (h : StO b w F s) (c : Int) : Calls Try.prog 9 #[.pointer (some ⟨b, 0, none⟩), .int .i64 c] w fun e w' => e = .returned (.int .i64 (sAck s c).1) ∧ Turn (StO b) w w' F (sAck s c).2 := by
  refine u9 ?_
  rw [t9]
  refine ⟨fun h => by simp at h, fun _ => ⟨(must_ok h c).mono ?_⟩⟩
  rintro e w' ⟨rfl, hU⟩
  refine ⟨_, rfl, fun h1 => ?_, fun h1 => ?_⟩
  · have h1 : ¬ hs (sLeft s) c = true := by simpa using h1
    simp only [sAck, if_neg h1]
    exact ⟨trivial, Turn.quiet h hU⟩
  · have h1 : hs (sLeft s) c = true := by simpa using h1
    simp only [sAck, if_pos h1]
    have hB := h.blk.upd hU id
    refine ⟨_, rfl, _, hB.cell rfl, ⟨fun w1 hN => ⟨(mWith_ok s.2 (l := [c]) (Sl.new (n := 1) (sz := 1) hN (by simp) (by unfold maxLen; omega)).cells (by simp)).mono ?_⟩⟩⟩
    rintro e w2 ⟨rfl, rfl⟩
    exact ⟨_, rfl, _, rfl, (hN.keep hB).wr (by simp [stE]) fun w3 k => ⟨trivial, h.turned (((hU.mono fun _ _ h => h.elim).trans (hN.upd no) fun _ _ h => h.elim).and k.U) k.blk'⟩⟩
theorem ackNil_ok (c : Int) (w : World) : Calls Try.prog 9 #[.pointer none, .int .i64 c] w fun e w' => e = .returned (.int .i64 1) ∧ w' = w := by
  refine u9 ?_
  rw [t9]
  exact ⟨fun _ => ⟨rfl, rfl⟩, fun h => by simp at h⟩

theorem free_ok (h : StO b w F s) : Calls Try.prog 15 #[.pointer (some ⟨b, 0, none⟩)] w fun e w' => e = .returned (.int .i64 (sFree s).1) ∧ Turn (StO b) w w' F (sFree s).2 := by
  refine u15 ?_
  rw [t15]
  refine ⟨fun h => by simp at h, fun _ => ⟨(on_ok h).mono ?_⟩⟩
  rintro e w' ⟨rfl, rfl⟩
  refine ⟨_, rfl, fun h1 => ?_, fun h1 => ?_⟩
  · have h1 : s.1 = 0 := by simpa using h1
    simp only [sFree, if_pos h1]
    exact ⟨trivial, Turn.same h⟩
  · have h1 : s.1 ≠ 0 := by simpa using h1
    simp only [sFree, if_neg h1]
    exact ⟨_, rfl, h.blk.wr (by simp [stE]) fun w1 k1 => ⟨_, rfl, k1.blk'.wr (by simp [stE, setL]) fun w2 k2 => ⟨trivial, h.turned (k1.U.and k2.U) k2.blk'⟩⟩⟩
theorem freeNil_ok (w : World) : Calls Try.prog 15 #[.pointer none] w fun e w' => e = .returned (.int .i64 1) ∧ w' = w := by
  refine u15 ?_
  rw [t15]
  exact ⟨fun _ => ⟨rfl, rfl⟩, fun h => by simp at h⟩

theorem rbegin_ok (h : RsO b w F r) (m : BV) : Calls Try.prog 13 #[.pointer (some ⟨b, 0, none⟩), .int .u64 (mi m)] w fun e w' => e = .returned (.int .i64 (rBegin r m).1) ∧ Turn (RsO b) w w' F (rBegin r m).2 := by
  refine u13 ?_
  rw [t13]
  refine ⟨_, rfl, _, h.blk.cell rfl, fun h1 => ?_, fun h1 => ⟨fun h2 => ?_, fun h2 => ?_⟩⟩
  · simp only [rBegin, if_pos h1]
    exact ⟨trivial, Turn.same h⟩
  · have h1 : ¬ r.1 = true := by simpa using h1
    have h2 : m = 0 := by rw [mi_beq0] at h2; simpa using h2
    simp only [rBegin, if_neg h1, if_pos h2]
    exact ⟨trivial, Turn.same h⟩
  · have h1 : ¬ r.1 = true := by simpa using h1
    have h2 : m ≠ 0 := by rw [mi_beq0] at h2; simpa using h2
    simp only [rBegin, if_neg h1, if_neg h2]
    exact ⟨_, rfl, h.blk.wr (by simp [rsE]) fun w1 k1 => ⟨_, rfl, k1.blk'.wr (by simp [rsE, setL]) fun w2 k2 => ⟨_, rfl, k2.blk'.wr (by simp [rsE, setL]) fun w3 k3 => ⟨trivial, h.turned ((k1.U.and k2.U).and k3.U) k3.blk'⟩⟩⟩⟩

theorem rmust_ok (h : RsO b w F r) (c : Int) : Calls Try.prog 19 #[.pointer (some ⟨b, 0, none⟩), .int .i64 c] w fun e w' => e = .returned (.bool (rMust r c)) ∧ w' = w := by
  refine u19 ?_
  rw [t19]
  refine ⟨_, rfl, _, h.blk.cell rfl, fun h1 => ⟨_, rfl, _, h.blk.cell rfl, ⟨(rHas_ok _ _ w).mono ?_⟩⟩, fun h1 => ⟨by simp [rMust, h1], rfl⟩⟩
  rintro e w' ⟨rfl, rfl⟩
  refine ⟨_, rfl, fun h2 => ⟨_, rfl, _, h.blk.cell rfl, ⟨(rHas_ok _ _ w').mono ?_⟩⟩, fun h2 => ⟨by simp [rMust, h2], rfl⟩⟩
  rintro e w' ⟨rfl, rfl⟩
  exact ⟨_, rfl, by simp [rMust, h1, h2], rfl⟩
theorem rholds_ok (h : RsO b w F r) (c : Int) : Calls Try.prog 21 #[.pointer (some ⟨b, 0, none⟩), .int .i64 c] w fun e w' => e = .returned (.bool (r.1 && hs r.2.2 c)) ∧ w' = w := by
  refine u21 ?_
  rw [t21]
  refine ⟨_, rfl, _, h.blk.cell rfl, fun h1 => ⟨_, rfl, _, h.blk.cell rfl, ⟨(rHas_ok _ _ w).mono ?_⟩⟩, fun h1 => ⟨by simp [h1], rfl⟩⟩
  rintro e w' ⟨rfl, rfl⟩
  exact ⟨_, rfl, by simp [h1], rfl⟩
theorem rleft_ok (h : RsO b w F r) : Calls Try.prog 23 #[.pointer (some ⟨b, 0, none⟩)] w fun e w' => e = .returned (.int .u64 (mi (rLeft r))) ∧ Upd no w w' := by
  refine u23 ?_
  rw [t23]
  refine ⟨_, rfl, _, h.blk.cell rfl, fun h1 => ?_, fun h1 w1 q1 q2 q3 q4 => ?_⟩
  · have h1 : ¬ r.1 = true := by simpa using h1
    simp only [rLeft, if_neg h1]
    exact ⟨rfl, Upd.refl _ _⟩
  · have h1 : r.1 = true := by simpa using h1
    have hU := Upd.same no q1 q2 q3 q4
    have hB := h.blk.upd hU id
    refine ⟨_, rfl, _, hB.cell rfl, _, rfl, _, hB.cell rfl, ⟨(rNot_ok _ _ w1).mono ?_⟩⟩
    rintro e w' ⟨rfl, hU'⟩
    exact ⟨_, rfl, by rw [rLeft, if_pos h1], hU.and hU'⟩
theorem rready_ok (h : RsO b w F r) : Calls Try.prog 22 #[.pointer (some ⟨b, 0, none⟩)] w fun e w' => e = .returned (.bool (r.1 && (rLeft r == 0))) ∧ Upd no w w' := by
  refine u22 ?_
  rw [t22]
  refine ⟨_, rfl, _, h.blk.cell rfl, fun h1 => ⟨(rleft_ok h).mono ?_⟩, fun h1 => ⟨by simp [h1], Upd.refl _ _⟩⟩
  rintro e w' ⟨rfl, hU⟩
  exact ⟨_, rfl, by rw [mi_beq0, h1, Bool.true_and], hU⟩
theorem rack_ok (h : RsO b w F r) (c : Int) : Calls Try.prog 14 #[.pointer (some ⟨b, 0, none⟩), .int .i64 c] w fun e w' => e = .returned (.int .i64 (rAck r c).1) ∧ Turn (RsO b) w w' F (rAck r c).2 := by
  refine u14 ?_
  rw [t14]
  refine ⟨(rmust_ok h c).mono ?_⟩
  rintro e w' ⟨rfl, rfl⟩
  refine ⟨_, rfl, fun h1 => ?_, fun h1 => ?_⟩
  · have h1 : ¬ rMust r c = true := by simpa using h1
    simp only [rAck, if_neg h1]
    exact ⟨trivial, Turn.same h⟩
  · have h1 : rMust r c = true := by simpa using h1
    simp only [rAck, if_pos h1]
    refine ⟨_, rfl, _, h.blk.cell rfl, ⟨(rWith_ok _ _ w').mono ?_⟩⟩
    rintro e w2 ⟨rfl, rfl⟩
    exact ⟨_, rfl, _, rfl, h.blk.wr (by simp [rsE]) fun w3 k => ⟨trivial, h.turned k.U k.blk'⟩⟩
theorem rfree_ok (h : RsO b w F r) : Calls Try.prog 16 #[.pointer (some ⟨b, 0, none⟩)] w fun e w' => e = .returned (.int .i64 (rFree r).1) ∧ Turn (RsO b) w w' F (rFree r).2 := by
  refine u16 ?_
  rw [t16]
  refine ⟨_, rfl, _, h.blk.cell rfl, fun h1 => ?_, fun h1 => ?_⟩
  · have h1 : ¬ r.1 = true := by simpa using h1
    simp only [rFree, if_neg h1]
    exact ⟨trivial, Turn.same h⟩
  · have h1 : r.1 = true := by simpa using h1
    simp only [rFree, if_pos h1]
    exact ⟨_, rfl, h.blk.wr (by simp [rsE]) fun w1 k1 => ⟨trivial, h.turned k1.U k1.blk'⟩⟩
end
end Go.Dav
