/- What the functions of the pair come to. -/
import Derived.Test.YtcnnnioepabfiaaLk05
namespace Go.Dav
open Go.Proofs

/-- The two numbers, the stamp, who writes. -/
structure Pr where
  a : Int
  b : Int
  st : Int
  by' : Int
def prE (s : Pr) : List Value := [.int .i64 s.a, .int .i64 s.b, .int .i64 s.st, .int .i64 s.by']
abbrev PrO (T : TypeId) (b : Nat) : Ob Pr := Rw b T prE
abbrev PpO (b : Nat) := PrO 45 b
abbrev PqO (b : Nat) := PrO 48 b
def Pr.ok (s : Pr) : Prop := 0 ≤ s.st ∧ s.st ≤ 4611686018427387904
def odd (s : Pr) : Bool := s.st % 2 == 1
def pown (s : Pr) (c : Int) : Bool := odd s && decide (s.by' = c)
def beginE (s : Pr) (c : Int) : Int := if out c then 3 else if odd s = true then 7 else 0
def beginS (s : Pr) (c : Int) : Pr := if beginE s c = 0 then ⟨s.a, s.b, s.st + 1, c⟩ else s
def putE (s : Pr) (c i : Int) : Int := if out c then 3 else if i < 0 ∨ 2 ≤ i then 3 else if pown s c = true then 0 else 17
def putS (s : Pr) (c i n : Int) : Pr := if putE s c i = 0 then (if i = 0 then ⟨n, s.b, s.st, s.by'⟩ else ⟨s.a, n, s.st, s.by'⟩) else s
def endE (s : Pr) (c : Int) : Int := if out c then 3 else if pown s c = true then 0 else 17
def endS (s : Pr) (c : Int) : Pr := if endE s c = 0 then ⟨s.a, s.b, s.st + 1, s.by'⟩ else s
def startE (s : Pr) : Int × Int := if odd s = true then (0, 7) else (s.st, 0)
def getE (s : Pr) (i : Int) : Int := if i = 0 then s.a else if i = 1 then s.b else 0

theorem and1 {s : Int} (h : 0 ≤ s) (h2 : s < 9223372036854775808) : bitsOp .and .i64 s 1 = s % 2 := by
  show IntKind.wrap .i64 ((BitVec.ofInt 64 s &&& BitVec.ofInt 64 1).toNat : Int) = _
  have e1 : (BitVec.ofInt 64 s).toNat = s.toNat := by rw [BitVec.toNat_ofInt]; omega
  have e2 : (BitVec.ofInt 64 1).toNat = 1 := by decide
  rw [BitVec.toNat_and, e1, e2, Nat.and_one_is_mod, w64 (by omega)]
  omega

section
variable {w : World} {F : Fp} {b : Nat} {T : TypeId} {s : Pr}

theorem tmod1 (h : s.ok) : (Int.tmod s.st 2 == 1) = odd s := by
  rw [Int.tmod_eq_emod_of_nonneg h.1]; rfl
theorem tmod0 (h : s.ok) : (Int.tmod s.st 2 == 0) = !odd s := by
  rw [Int.tmod_eq_emod_of_nonneg h.1, odd, Bool.eq_iff_iff]
  simp
  omega

theorem writing_ok (h : PpO b w F s) (hk : s.ok) : Calls Try.prog 33 #[.pointer (some ⟨b, 0, none⟩)] w fun e w' => e = .returned (.bool (odd s)) ∧ w' = w := by
  refine u33 ?_
  rw [t33]
  exact ⟨_, rfl, _, h.blk.cell rfl, by rw [and1 hk.1 (by have := hk.2; omega)]; rfl, rfl⟩
theorem owned_ok (h : PpO b w F s) (hk : s.ok) (c : Int) : Calls Try.prog 34 #[.pointer (some ⟨b, 0, none⟩), .int .i64 c] w fun e w' => e = .returned (.int .i64 (if pown s c = true then 0 else 17)) ∧ w' = w := by
  refine u34 ?_
  rw [t34]
  refine ⟨(writing_ok h hk).mono ?_⟩
  rintro e w' ⟨rfl, rfl⟩
  refine ⟨_, rfl, fun h1 => ⟨_, rfl, _, h.blk.cell rfl, fun h2 => ⟨?_, rfl⟩, fun h2 => ⟨?_, rfl⟩⟩, fun h1 => ⟨?_, rfl⟩⟩
  · have h1 : odd s = true := by simpa using h1
    have h2 : ¬ s.by' = c := by simpa using h2
    simp [pown, h1, h2]
  · have h1 : odd s = true := by simpa using h1
    have h2 : s.by' = c := by simpa using h2
    simp [pown, h1, h2]
  · have h1 : odd s = false := by simpa using h1
    simp [pown, h1]

theorem pbegin_ok (h : PpO b w F s) (hk : s.ok) (c : Int) : Calls Try.prog 16 #[.pointer (some ⟨b, 0, none⟩), .int .i64 c] w fun e w' => e = .returned (.int .i64 (beginE s c)) ∧ Turn (PpO b) w w' F (beginS s c) := by
  refine u16 ?_
  rw [t16]
  refine ⟨(may_ok _ c w).mono ?_⟩
  rintro e w' ⟨rfl, rfl⟩
  refine ⟨_, rfl, fun h1 => ?_, fun h1 => ⟨(writing_ok h hk).mono ?_⟩⟩
  · obtain ⟨h2, h3⟩ := may_out h1
    have k1 : beginE s c = 3 := by simp [beginE, h2]
    rw [beginS, k1]
    exact ⟨by rw [← h3]; rfl, Turn.same h⟩
  · have h2 := may_in h1
    rintro e w' ⟨rfl, rfl⟩
    refine ⟨_, rfl, fun h3 => ?_, fun h3 => ⟨_, rfl, _, h.blk.cell rfl, _, rfl, h.blk.wr (by simp [prE]) fun w1 W1 => ⟨_, rfl, W1.blk'.wr (by simp [prE, setL]) fun w2 W2 => ?_⟩⟩⟩
    · have k1 : beginE s c = 7 := by simp [beginE, h2, h3]
      rw [beginS, k1]
      exact ⟨rfl, Turn.same h⟩
    · have k1 : beginE s c = 0 := by simp [beginE, h2, h3]
      rw [beginS, k1, if_pos rfl]
      refine ⟨rfl, h.turned (W1.U.and W2.U) ?_⟩
      have := W2.blk'
      rw [w64 (by have := hk.1; have := hk.2; omega)] at this
      exact this

theorem pend_ok (h : PpO b w F s) (hk : s.ok) (c : Int) : Calls Try.prog 20 #[.pointer (some ⟨b, 0, none⟩), .int .i64 c] w fun e w' => e = .returned (.int .i64 (endE s c)) ∧ Turn (PpO b) w w' F (endS s c) := by
  refine u20 ?_
  rw [t20]
  refine ⟨(may_ok _ c w).mono ?_⟩
  rintro e w' ⟨rfl, rfl⟩
  refine ⟨_, rfl, fun h1 => ?_, fun h1 => ⟨(owned_ok h hk c).mono ?_⟩⟩
  · obtain ⟨h2, h3⟩ := may_out h1
    have k1 : endE s c = 3 := by simp [endE, h2]
    rw [endS, k1]
    exact ⟨by rw [← h3]; rfl, Turn.same h⟩
  · have h2 := may_in h1
    rintro e w' ⟨rfl, rfl⟩
    refine ⟨_, rfl, fun h3 => ⟨_, rfl, _, h.blk.cell rfl, _, rfl, h.blk.wr (by simp [prE]) fun w1 W1 => ?_⟩, fun h3 => ?_⟩
    · have hp : pown s c = true := by
        cases hp : pown s c <;> simp_all
      have k1 : endE s c = 0 := by simp [endE, h2, hp]
      rw [endS, k1, if_pos rfl, if_pos hp]
      refine ⟨rfl, h.turned W1.U ?_⟩
      have := W1.blk'
      rw [w64 (by have := hk.1; have := hk.2; omega)] at this
      exact this
    · have hp : ¬ pown s c = true := by
        cases hp : pown s c <;> simp_all
      have k1 : endE s c = 17 := by simp [endE, h2, hp]
      rw [endS, k1, if_neg hp]
      exact ⟨rfl, Turn.same h⟩

theorem pput_ok (h : PpO b w F s) (hk : s.ok) (c i n : Int) : Calls Try.prog 18 #[.pointer (some ⟨b, 0, none⟩), .int .i64 c, .int .i64 i, .int .i64 n] w fun e w' => e = .returned (.int .i64 (putE s c i)) ∧ Turn (PpO b) w w' F (putS s c i n) := by
  refine u18 ?_
  rw [t18]
  refine ⟨(may_ok _ c w).mono ?_⟩
  rintro e w' ⟨rfl, rfl⟩
  refine ⟨_, rfl, fun h1 => ?_, fun h1 => ⟨fun h2 => ⟨fun h3 => ?_, fun h3 => ⟨(owned_ok h hk c).mono ?_⟩⟩, fun h2 => ?_⟩⟩
  · obtain ⟨h2, h3⟩ := may_out h1
    have k1 : putE s c i = 3 := by simp [putE, h2]
    rw [putS, k1]
    exact ⟨by rw [← h3]; rfl, Turn.same h⟩
  · have k0 := may_in h1
    have h3 : 2 ≤ i := by simpa using h3
    have k1 : putE s c i = 3 := by simp [putE, k0, h3]
    rw [putS, k1]
    exact ⟨rfl, Turn.same h⟩
  · have k0 := may_in h1
    have h2 : ¬ i < 0 := by simpa using h2
    have h3 : ¬ 2 ≤ i := by simpa using h3
    rintro e w' ⟨rfl, rfl⟩
    refine ⟨_, rfl, fun h4 => ⟨_, rfl, ⟨by omega, by omega⟩, ?_⟩, fun h4 => ?_⟩
    · have hp : pown s c = true := by
        cases hp : pown s c <;> simp_all
      have k1 : putE s c i = 0 := by simp [putE, k0, h2, h3, hp]
      rw [putS, k1, if_pos rfl, if_pos hp, Addr.add_add]
      rcases (show i = 0 ∨ i = 1 by omega) with rfl | rfl
      · exact h.blk.wr (by simp [prE]) fun w1 W1 => ⟨rfl, h.turned W1.U W1.blk'⟩
      · exact h.blk.wr (by simp [prE]) fun w1 W1 => ⟨rfl, h.turned W1.U W1.blk'⟩
    · have hp : ¬ pown s c = true := by
        cases hp : pown s c <;> simp_all
      have k1 : putE s c i = 17 := by simp [putE, k0, h2, h3, hp]
      rw [putS, k1, if_neg hp]
      exact ⟨rfl, Turn.same h⟩
  · have k0 := may_in h1
    have h2 : i < 0 := by simpa using h2
    have k1 : putE s c i = 3 := by simp [putE, k0, h2]
    rw [putS, k1]
    exact ⟨rfl, Turn.same h⟩

theorem pstart_ok (h : PpO b w F s) (hk : s.ok) : Calls Try.prog 22 #[.pointer (some ⟨b, 0, none⟩)] w fun e w' => e = .returned (.tuple #[.int .i64 (startE s).1, .int .i64 (startE s).2]) ∧ w' = w := by
  refine u22 ?_
  rw [t22]
  refine ⟨fun h1 => by simp at h1, fun _ => ⟨(writing_ok h hk).mono ?_⟩⟩
  rintro e w' ⟨rfl, rfl⟩
  refine ⟨_, rfl, fun h1 => ⟨?_, rfl⟩, fun h1 => ⟨_, rfl, _, h.blk.cell rfl, ?_, rfl⟩⟩
  · rw [startE, if_pos h1]
  · rw [startE, if_neg (by simp [h1])]
theorem pget_ok (h : PpO b w F s) (i : Int) : Calls Try.prog 24 #[.pointer (some ⟨b, 0, none⟩), .int .i64 i] w fun e w' => e = .returned (.int .i64 (getE s i)) ∧ w' = w := by
  refine u24 ?_
  rw [t24]
  refine ⟨fun _ => ⟨fun h2 => ⟨fun h3 => ⟨?_, rfl⟩, fun h3 => ⟨_, rfl, ⟨?_, ?_⟩, ?_⟩⟩, fun h2 => ⟨?_, rfl⟩⟩, fun h1 => by simp at h1⟩
  · have h3 : 2 ≤ i := by simpa using h3
    rw [getE, if_neg (by omega), if_neg (by omega)]
  · simpa using h2
  · simp at h3; simpa using h3
  · have h2 : ¬ i < 0 := by simpa using h2
    have h3 : ¬ 2 ≤ i := by simpa using h3
    rw [Addr.add_add]
    rcases (show i = 0 ∨ i = 1 by omega) with rfl | rfl
    · exact ⟨_, h.blk.cell rfl, rfl, rfl⟩
    · exact ⟨_, h.blk.cell rfl, rfl, rfl⟩
  · have h2 : i < 0 := by simpa using h2
    rw [getE, if_neg (by omega), if_neg (by omega)]
theorem pagain_ok (h : PpO b w F s) (n : Int) : Calls Try.prog 26 #[.pointer (some ⟨b, 0, none⟩), .int .i64 n] w fun e w' => e = .returned (.bool (s.st != n)) ∧ w' = w := by
  refine u26 ?_
  rw [t26]
  exact ⟨fun _ => ⟨_, rfl, _, h.blk.cell rfl, rfl, rfl⟩, fun h => by simp at h⟩

theorem qbegin_ok (h : PqO b w F s) (hk : s.ok) (c : Int) : Calls Try.prog 17 #[.pointer (some ⟨b, 0, none⟩), .int .i64 c] w fun e w' => e = .returned (.int .i64 (beginE s c)) ∧ Turn (PqO b) w w' F (beginS s c) := by
  refine u17 ?_
  rw [t17]
  refine ⟨(core_ok c w).mono ?_⟩
  rintro e w' ⟨rfl, rfl⟩
  refine ⟨_, rfl, fun h1 => ?_, fun h1 => ⟨_, rfl, _, h.blk.cell rfl, by decide, fun h3 => ?_, fun h3 => ⟨_, rfl, _, h.blk.cell rfl, _, rfl, h.blk.wr (by simp [prE]) fun w1 W1 => ⟨_, rfl, W1.blk'.wr (by simp [prE, setL]) fun w2 W2 => ?_⟩⟩⟩⟩
  · have h2 : out c := by simp at h1; unfold out; omega
    have k1 : beginE s c = 3 := by simp [beginE, h2]
    rw [beginS, k1]
    exact ⟨rfl, Turn.same h⟩
  · have h2 : ¬ out c := by simp at h1; unfold out; omega
    rw [tmod1 hk] at h3
    have k1 : beginE s c = 7 := by simp [beginE, h2, h3]
    rw [beginS, k1]
    exact ⟨rfl, Turn.same h⟩
  · have h2 : ¬ out c := by simp at h1; unfold out; omega
    rw [tmod1 hk] at h3
    have k1 : beginE s c = 0 := by simp [beginE, h2, h3]
    rw [beginS, k1, if_pos rfl]
    refine ⟨rfl, h.turned (W1.U.and W2.U) ?_⟩
    have := W2.blk'
    rw [w64 (by have := hk.1; have := hk.2; omega)] at this
    exact this
theorem qend_ok (h : PqO b w F s) (hk : s.ok) (c : Int) : Calls Try.prog 21 #[.pointer (some ⟨b, 0, none⟩), .int .i64 c] w fun e w' => e = .returned (.int .i64 (endE s c)) ∧ Turn (PqO b) w w' F (endS s c) := by
  refine u21 ?_
  rw [t21]
  refine ⟨(core_ok c w).mono ?_⟩
  rintro e w' ⟨rfl, rfl⟩
  have t0 := tmod0 hk
  refine ⟨_, rfl, fun h1 => ?_, fun h1 => ?_⟩
  · have h2 : out c := by simp at h1; unfold out; omega
    have k1 : endE s c = 3 := by simp [endE, h2]
    rw [endS, k1]
    exact ⟨rfl, Turn.same h⟩
  · have h2 : ¬ out c := by simp at h1; unfold out; omega
    refine ⟨_, rfl, _, h.blk.cell rfl, by decide, fun h3 => ⟨_, rfl, _, h.blk.cell rfl, fun h4 => ?_, fun h4 => ⟨_, rfl, _, h.blk.cell rfl, _, rfl, h.blk.wr (by simp [prE]) fun w1 W1 => ?_⟩⟩, fun h3 => ?_⟩
    · have hp : pown s c = false := by rw [t0] at h3; simp at h3 h4; simp [pown, h3, h4]
      have k1 : endE s c = 17 := by simp [endE, h2, hp]
      rw [endS, k1]
      exact ⟨rfl, Turn.same h⟩
    · have hp : pown s c = true := by rw [t0] at h3; simp at h3 h4; simp [pown, h3, h4]
      have k1 : endE s c = 0 := by simp [endE, h2, hp]
      rw [endS, k1, if_pos rfl]
      refine ⟨rfl, h.turned W1.U ?_⟩
      have := W1.blk'
      rw [w64 (by have := hk.1; have := hk.2; omega)] at this
      exact this
    · have hp : pown s c = false := by rw [t0] at h3; simp at h3; simp [pown, h3]
      have k1 : endE s c = 17 := by simp [endE, h2, hp]
      rw [endS, k1]
      exact ⟨rfl, Turn.same h⟩
theorem qput_ok (h : PqO b w F s) (hk : s.ok) (c i n : Int) : Calls Try.prog 19 #[.pointer (some ⟨b, 0, none⟩), .int .i64 c, .int .i64 i, .int .i64 n] w fun e w' => e = .returned (.int .i64 (putE s c i)) ∧ Turn (PqO b) w w' F (putS s c i n) := by
  refine u19 ?_
  rw [t19]
  refine ⟨(core_ok c w).mono ?_⟩
  rintro e w' ⟨rfl, rfl⟩
  have t0 := tmod0 hk
  refine ⟨_, rfl, fun h1 => ⟨fun h5 => ⟨fun h6 => ?_, fun h6 => ?_⟩, fun h5 => ?_⟩, fun h1 => ?_⟩
  · have k1 : putE s c i = 3 := by
      have : ¬ out c := by simp at h1; unfold out; omega
      simp [putE, this]; simp at h6; omega
    rw [putS, k1]
    exact ⟨rfl, Turn.same h⟩
  · have h2 : ¬ out c := by simp at h1; unfold out; omega
    have h7 : ¬ (i < 0 ∨ 2 ≤ i) := by simp at h5 h6; omega
    refine ⟨_, rfl, _, h.blk.cell rfl, by decide, fun h3 => ⟨_, rfl, _, h.blk.cell rfl, fun h4 => ?_, fun h4 => ?_⟩, fun h3 => ?_⟩
    · have hp : pown s c = false := by rw [t0] at h3; simp at h3 h4; simp [pown, h3, h4]
      have k1 : putE s c i = 17 := by rw [putE, if_neg h2, if_neg h7, if_neg (by simp [hp])]
      rw [putS, k1]
      exact ⟨rfl, Turn.same h⟩
    · have hp : pown s c = true := by rw [t0] at h3; simp at h3 h4; simp [pown, h3, h4]
      have k1 : putE s c i = 0 := by rw [putE, if_neg h2, if_neg h7, if_pos hp]
      rw [putS, k1, if_pos rfl]
      refine ⟨fun h8 => ⟨_, rfl, h.blk.wr (by simp [prE]) fun w1 W1 => ?_⟩, fun h8 => ⟨_, rfl, h.blk.wr (by simp [prE]) fun w1 W1 => ?_⟩⟩
      · rw [if_pos (by simpa using h8)]
        exact ⟨rfl, h.turned W1.U W1.blk'⟩
      · rw [if_neg (by simpa using h8)]
        exact ⟨rfl, h.turned W1.U W1.blk'⟩
    · have hp : pown s c = false := by rw [t0] at h3; simp at h3; simp [pown, h3]
      have k1 : putE s c i = 17 := by rw [putE, if_neg h2, if_neg h7, if_neg (by simp [hp])]
      rw [putS, k1]
      exact ⟨rfl, Turn.same h⟩
  · have k1 : putE s c i = 3 := by
      have : ¬ out c := by simp at h1; unfold out; omega
      simp [putE, this]; simp at h5; omega
    rw [putS, k1]
    exact ⟨rfl, Turn.same h⟩
  · have h2 : out c := by simp at h1; unfold out; omega
    have k1 : putE s c i = 3 := by simp [putE, h2]
    rw [putS, k1]
    exact ⟨rfl, Turn.same h⟩
theorem qstart_ok (h : PqO b w F s) (hk : s.ok) : Calls Try.prog 23 #[.pointer (some ⟨b, 0, none⟩)] w fun e w' => e = .returned (.tuple #[.int .i64 (startE s).1, .int .i64 (startE s).2]) ∧ w' = w := by
  refine u23 ?_
  rw [t23]
  have t1 := tmod1 hk
  refine ⟨_, rfl, _, h.blk.cell rfl, by decide, fun h1 => ⟨?_, rfl⟩, fun h1 => ⟨_, rfl, _, h.blk.cell rfl, ?_, rfl⟩⟩
  · rw [t1] at h1; rw [startE, if_pos h1]
  · rw [t1] at h1; rw [startE, if_neg (by simp [h1])]
theorem qget_ok (h : PqO b w F s) (i : Int) : Calls Try.prog 25 #[.pointer (some ⟨b, 0, none⟩), .int .i64 i] w fun e w' => e = .returned (.int .i64 (getE s i)) ∧ w' = w := by
  refine u25 ?_
  rw [t25]
  refine ⟨fun h1 => ⟨_, rfl, _, h.blk.cell rfl, ?_, rfl⟩, fun h1 => ⟨fun h2 => ⟨_, rfl, _, h.blk.cell rfl, ?_, rfl⟩, fun h2 => ⟨?_, rfl⟩⟩⟩
  · rw [getE, if_pos (by simpa using h1)]
  · rw [getE, if_neg (by simpa using h1), if_pos (by simpa using h2)]
  · rw [getE, if_neg (by simpa using h1), if_neg (by simpa using h2)]
end
theorem begin_ok {s : Pr} {c : Int} {n : Int} (h : s.ok) (hn : s.st ≤ n) (hb : n ≤ 1000) : (beginS s c).ok ∧ (beginS s c).st ≤ n + 1 := by
  obtain ⟨h1, h2⟩ := h
  unfold beginS Pr.ok
  split <;> refine ⟨⟨?_, ?_⟩, ?_⟩ <;> (try dsimp only) <;> omega
theorem end_ok {s : Pr} {c : Int} {n : Int} (h : s.ok) (hn : s.st ≤ n) (hb : n ≤ 1000) : (endS s c).ok ∧ (endS s c).st ≤ n + 1 := by
  obtain ⟨h1, h2⟩ := h
  unfold endS Pr.ok
  split <;> refine ⟨⟨?_, ?_⟩, ?_⟩ <;> (try dsimp only) <;> omega
theorem put_ok {s : Pr} {c i m : Int} {n : Int} (h : s.ok) (hn : s.st ≤ n) : (putS s c i m).ok ∧ (putS s c i m).st ≤ n + 1 := by
  obtain ⟨h1, h2⟩ := h
  unfold putS Pr.ok
  split
  · split <;> refine ⟨⟨?_, ?_⟩, ?_⟩ <;> (try dsimp only) <;> omega
  · refine ⟨⟨?_, ?_⟩, ?_⟩ <;> omega
end Go.Dav
