/- What the functions of the table of interrupts come to. -/
import Derived.Test.YtcjhkmgemdlalaaMsk15
import Derived.Test.YtcjhkmgemdlalaaLst15
import Derived.Test.YtcjhkmgemdlalaaRec
namespace Go.Dav
open Go.Proofs

/-- Wanted, masked, pending, for which cores. -/
abbrev Iq := Bool × Bool × Bool × BV
def iqE (x : Iq) : List Value := [.bool x.1, .bool x.2.1, .bool x.2.2.1, .int .u64 (mi x.2.2.2)]
theorem iqE_len (x : Iq) : (iqE x).length = 4 := rfl
def i0 : Iq := (false, false, false, 0)
/-- How many cores there are; the interrupts. -/
abbrev IrS := Int × List Iq
def irE (s : IrS) : List Value := s.2.flatMap iqE ++ [.int .u64 (mi (upM s.1))]
def IrO (b : Nat) : Ob IrS := fun w F s => Rw b 58 irE w F s ∧ s.2.length = 16
instance Frame.ir (b : Nat) : Frame (IrO b) where
  upd := fun ⟨h, r⟩ k hG => ⟨(Frame.rw ..).upd h k hG, r⟩
  lt := fun ⟨h, _⟩ => (Frame.rw ..).lt h

def nout (n : Int) : Prop := n < 0 ∨ 16 ≤ n
instance (n : Int) : Decidable (nout n) := inferInstanceAs (Decidable (_ ∨ _))
def gq (s : IrS) (n : Int) : Iq := s.2.getD n.toNat i0
def iput (s : IrS) (n : Int) (q : Iq) : IrS := (s.1, s.2.set n.toNat q)
def wantE (s : IrS) (n : Int) : Int := if nout n then 3 else if (gq s n).1 = true then 0 else 4
def reqE (s : IrS) (n : Int) (m : BV) : Int := if nout n then 3 else if (gq s n).1 = true then 6 else if rightR s.1 m = true then 0 else 2
def reqS (s : IrS) (n : Int) (m : BV) : IrS := if reqE s n m = 0 then iput s n (true, false, false, m) else s
def freeS (s : IrS) (n : Int) : IrS := if wantE s n = 0 then iput s n i0 else s
def aimE (s : IrS) (n : Int) (m : BV) : Int := if wantE s n = 0 then (if rightR s.1 m = true then 0 else 2) else wantE s n
def aimS (s : IrS) (n : Int) (m : BV) : IrS := if aimE s n m = 0 then iput s n ((gq s n).1, (gq s n).2.1, (gq s n).2.2.1, m) else s
def hushE (s : IrS) (n : Int) (b : Bool) : Int := if wantE s n = 0 then (if (gq s n).2.1 = b then 6 else 0) else wantE s n
def hushS (s : IrS) (n : Int) (b : Bool) : IrS := if hushE s n b = 0 then iput s n ((gq s n).1, b, (gq s n).2.2.1, (gq s n).2.2.2) else s
def raiseS (s : IrS) (n : Int) : IrS := if wantE s n = 0 then iput s n ((gq s n).1, (gq s n).2.1, true, (gq s n).2.2.2) else s
def readyE (s : IrS) (n : Int) : Bool := decide (wantE s n = 0) && (gq s n).2.2.1 && !(gq s n).2.1
def clearE (s : IrS) (n : Int) : Int := if wantE s n = 0 then (if readyE s n = true then 0 else 12) else wantE s n
def clearS (s : IrS) (n : Int) : IrS := if clearE s n = 0 then iput s n ((gq s n).1, (gq s n).2.1, false, (gq s n).2.2.2) else s
def listP (s : IrS) (i : Int) : Bool := (gq s i).1
def listL (s : IrS) : List Int := upto (listP s) 16

/-- The place of an interrupt. -/
def ia (b : Nat) (k : Nat) : Addr := ((⟨b, 0, none⟩ : Addr).add 0).add (k * 4)

section
variable {w : World} {F : Fp} {b : Nat} {s : IrS}

theorem gq_get (h : s.2.length = 16) {k : Nat} (hk : k < 16) : gq s (k : Int) = s.2[k]'(by omega) := by
  unfold gq
  simp [List.getD_eq_getElem?_getD, h, hk]
theorem ir_len (h : s.2.length = 16) : (s.2.flatMap iqE).length = 64 := by rw [flat_len iqE_len, h]
theorem IrO.cell (h : IrO b w F s) {k j : Nat} (hk : k < 16) {v : Value} (hv : (iqE (gq s (k : Int)))[j]? = some v) : w.cell? ((ia b k).add j) = some v := by
  unfold ia
  rw [Addr.add_add, Addr.add_add]
  refine h.1.blk.cell ?_
  rw [gq_get h.2 hk] at hv
  have hj : j < 4 := by have := (List.getElem?_eq_some_iff.1 hv).1; rwa [iqE_len] at this
  rw [irE, Nat.zero_add, List.getElem?_append_left (by rw [ir_len h.2]; omega)]
  exact flat_at iqE_len (by rw [h.2]; exact hk) hv
theorem IrO.cpus (h : IrO b w F s) : w.cell? ((⟨b, 0, none⟩ : Addr).add 64) = some (.int .u64 (mi (upM s.1))) := by
  refine h.1.blk.cell ?_
  rw [irE, List.getElem?_append_right (by rw [ir_len h.2]; omega), ir_len h.2]
  rfl
theorem IrO.wr (h : IrO b w F s) {k j : Nat} (hk : k < 16) {vs : List Value} {q : Iq} (hj : j + vs.length ≤ 4) (hq : iqE q = setL (iqE (gq s (k : Int))) j vs) {K : World → Prop} (hK : ∀ w', Turn (IrO b) w w' F (iput s (k : Int) q) → K w') :
    Wr w ((ia b k).add j) vs K := by
  unfold ia
  rw [Addr.add_add, Addr.add_add, Nat.zero_add]
  rw [gq_get h.2 hk] at hq
  refine h.1.blk.wr (by rw [irE, List.length_append, ir_len h.2]; simp; omega) (fun w' hW => hK w' ?_)
  have hb := hW.blk'
  rw [irE, setL_app (by rw [ir_len h.2]; omega), setL_flat iqE_len (by rw [h.2]; exact hk) hj hq] at hb
  obtain ⟨F', k1, k2⟩ := h.1.turned (s' := iput s (k : Int) q) hW.U hb
  exact ⟨F', ⟨k1, by simp [iput, h.2]⟩, k2⟩
theorem ia_zero (b k : Nat) : (ia b k).add 0 = ia b k := by unfold ia; rw [Addr.add_add]; rfl
theorem IrO.wr0 (h : IrO b w F s) {k : Nat} (hk : k < 16) {q : Iq} {vs : List Value} (hq : vs = iqE q) {K : World → Prop} (hK : ∀ w', Turn (IrO b) w w' F (iput s (k : Int) q) → K w') : Wr w (ia b k) vs K := by
  subst hq
  rw [← ia_zero]
  exact h.wr hk (by rw [iqE_len]; omega) (by simp [setL, iqE]) hK

theorem find_ok (b : Nat) (n : Int) (w : World) : Calls Try.prog 26 #[.pointer (some ⟨b, 0, none⟩), .int .i64 n] w fun e w' =>
    ((nout n ∧ e = .returned (.tuple #[.pointer none, .int .i64 3])) ∨ (¬ nout n ∧ ∃ k : Nat, n = k ∧ k < 16 ∧ e = .returned (.tuple #[.pointer (some (ia b k)), .int .i64 0]))) ∧ w' = w := by
  refine u26 ?_
  rw [t26]
  refine ⟨fun h => by simp at h, fun _ => ⟨fun h1 => ⟨fun h2 => ⟨.inl ⟨?_, rfl⟩, rfl⟩, fun h2 => ⟨_, rfl, ⟨?_, ?_⟩, .inr ⟨?_, n.toNat, ?_, ?_, rfl⟩, rfl⟩⟩, fun h1 => ⟨.inl ⟨?_, rfl⟩, rfl⟩⟩⟩ <;> (first | (simp at h1 h2; unfold nout; omega) | (simp at h1 h2; omega) | (simp at h1; unfold nout; omega))
theorem findNil_ok (n : Int) (w : World) : Calls Try.prog 26 #[.pointer none, .int .i64 n] w fun e w' => e = .returned (.tuple #[.pointer none, .int .i64 1]) ∧ w' = w := by
  refine u26 ?_
  rw [t26]
  exact ⟨fun _ => ⟨rfl, rfl⟩, fun h => by simp at h⟩

theorem wanted_ok (h : IrO b w F s) (n : Int) : Calls Try.prog 29 #[.pointer (some ⟨b, 0, none⟩), .int .i64 n] w fun e w' =>
    ((wantE s n ≠ 0 ∧ e = .returned (.tuple #[.pointer none, .int .i64 (wantE s n)])) ∨ (wantE s n = 0 ∧ ∃ k : Nat, n = k ∧ k < 16 ∧ e = .returned (.tuple #[.pointer (some (ia b k)), .int .i64 0]))) ∧ w' = w := by
  refine u29 ?_
  rw [t29]
  refine ⟨(find_ok b n w).mono ?_⟩
  rintro e w' ⟨hh, rfl⟩
  rcases hh with ⟨hn, rfl⟩ | ⟨hn, k, rfl, hk, rfl⟩
  · have e1 : wantE s n = 3 := by simp [wantE, hn]
    exact ⟨_, _, rfl, fun g => by simp at g, fun _ => ⟨.inl ⟨by omega, by rw [e1]⟩, rfl⟩⟩
  · refine ⟨_, _, rfl, fun _ => ⟨_, rfl, _, h.cell hk rfl, fun g => ⟨.inl ?_, rfl⟩, fun g => ⟨.inr ⟨?_, k, rfl, hk, rfl⟩, rfl⟩⟩, fun g => by simp at g⟩
    · have e1 : wantE s k = 4 := by rw [wantE, if_neg hn, if_neg (by simpa using g)]
      exact ⟨by omega, by rw [e1]⟩
    · rw [wantE, if_neg hn, if_pos (by simpa using g)]
theorem wantedNil_ok (n : Int) (w : World) : Calls Try.prog 29 #[.pointer none, .int .i64 n] w fun e w' => e = .returned (.tuple #[.pointer none, .int .i64 1]) ∧ w' = w := by
  refine u29 ?_
  rw [t29]
  refine ⟨(findNil_ok n w).mono ?_⟩
  rintro e w' ⟨rfl, rfl⟩
  exact ⟨_, _, rfl, fun g => by simp at g, fun _ => ⟨rfl, rfl⟩⟩

theorem iright_ok (h : IrO b w F s) (m : BV) : Calls Try.prog 27 #[.pointer (some ⟨b, 0, none⟩), .int .u64 (mi m)] w fun e w' => e = .returned (.bool (rightR s.1 m)) ∧ w' = w := by
  refine u27 ?_
  rw [t27, mi_bne0]
  refine ⟨fun g => ⟨_, rfl, _, h.cpus, ⟨(mWithin_ok _ _ w).mono ?_⟩⟩, fun g => ⟨by rw [rightR, g, Bool.false_and], rfl⟩⟩
  rintro e w' ⟨rfl, rfl⟩
  exact ⟨_, rfl, by rw [rightR, g, Bool.true_and], rfl⟩

theorem raise_ok (h : IrO b w F s) (n : Int) : Calls Try.prog 10 #[.pointer (some ⟨b, 0, none⟩), .int .i64 n] w fun e w' => e = .returned (.int .i64 (wantE s n)) ∧ Turn (IrO b) w w' F (raiseS s n) := by
  refine u10 ?_
  rw [t10]
  refine ⟨(wanted_ok h n).mono ?_⟩
  rintro e w' ⟨⟨hn, rfl⟩ | ⟨hn, k, rfl, hk, rfl⟩, rfl⟩
  · rw [raiseS, if_neg hn]
    exact ⟨_, _, rfl, fun g => absurd (by simpa using g) hn, fun _ => ⟨rfl, Turn.same h⟩⟩
  · rw [raiseS, if_pos hn, hn]
    exact ⟨_, _, rfl, fun _ => ⟨_, rfl, h.wr hk (by simp) rfl fun w1 hT => ⟨rfl, hT⟩⟩, fun g => by simp at g⟩
theorem free_ok (h : IrO b w F s) (n : Int) : Calls Try.prog 23 #[.pointer (some ⟨b, 0, none⟩), .int .i64 n] w fun e w' => e = .returned (.int .i64 (wantE s n)) ∧ Turn (IrO b) w w' F (freeS s n) := by
  refine u23 ?_
  rw [t23]
  refine ⟨(wanted_ok h n).mono ?_⟩
  rintro e w' ⟨⟨hn, rfl⟩ | ⟨hn, k, rfl, hk, rfl⟩, rfl⟩
  · rw [freeS, if_neg hn]
    exact ⟨_, _, rfl, fun g => absurd (by simpa using g) hn, fun _ => ⟨rfl, Turn.same h⟩⟩
  · rw [freeS, if_pos hn, hn]
    exact ⟨_, _, rfl, fun _ => ⟨_, rfl, h.wr0 (q := i0) hk rfl fun w1 hT => ⟨rfl, hT⟩⟩, fun g => by simp at g⟩
theorem aim_ok (h : IrO b w F s) (n : Int) (m : BV) : Calls Try.prog 24 #[.pointer (some ⟨b, 0, none⟩), .int .i64 n, .int .u64 (mi m)] w fun e w' => e = .returned (.int .i64 (aimE s n m)) ∧ Turn (IrO b) w w' F (aimS s n m) := by
  refine u24 ?_
  rw [t24]
  refine ⟨(wanted_ok h n).mono ?_⟩
  rintro e w' ⟨⟨hn, rfl⟩ | ⟨hn, k, rfl, hk, rfl⟩, rfl⟩
  · have e1 : aimE s n m = wantE s n := by rw [aimE, if_neg hn]
    rw [aimS, e1, if_neg hn]
    exact ⟨_, _, rfl, fun _ => ⟨rfl, Turn.same h⟩, fun g => absurd (by simpa using g) hn⟩
  · refine ⟨_, _, rfl, fun g => by simp at g, fun _ => ⟨(iright_ok h m).mono ?_⟩⟩
    rintro e w1 ⟨rfl, rfl⟩
    refine ⟨_, rfl, fun g => ?_, fun g => ⟨_, rfl, ?_⟩⟩
    · have e1 : aimE s k m = 2 := by rw [aimE, if_pos hn, if_neg (by simpa using g)]
      rw [aimS, e1]
      exact ⟨rfl, Turn.same h⟩
    · have e1 : aimE s k m = 0 := by rw [aimE, if_pos hn, if_pos (by simpa using g)]
      rw [aimS, e1, if_pos rfl]
      exact h.wr hk (by simp) rfl fun w1 hT => ⟨rfl, hT⟩
theorem ihush_ok (h : IrO b w F s) (n : Int) (is : Bool) : Calls Try.prog 28 #[.pointer (some ⟨b, 0, none⟩), .int .i64 n, .bool is] w fun e w' => e = .returned (.int .i64 (hushE s n is)) ∧ Turn (IrO b) w w' F (hushS s n is) := by
  refine u28 ?_
  rw [t28]
  refine ⟨(wanted_ok h n).mono ?_⟩
  rintro e w' ⟨⟨hn, rfl⟩ | ⟨hn, k, rfl, hk, rfl⟩, rfl⟩
  · have e1 : hushE s n is = wantE s n := by rw [hushE, if_neg hn]
    rw [hushS, e1, if_neg hn]
    exact ⟨_, _, rfl, fun _ => ⟨rfl, Turn.same h⟩, fun g => absurd (by simpa using g) hn⟩
  · refine ⟨_, _, rfl, fun g => by simp at g, fun _ => ⟨_, rfl, _, h.cell hk rfl, fun g => ?_, fun g => ⟨_, rfl, ?_⟩⟩⟩
    · have e1 : hushE s k is = 6 := by rw [hushE, if_pos hn, if_pos (by simpa using g)]
      rw [hushS, e1]
      exact ⟨rfl, Turn.same h⟩
    · have e1 : hushE s k is = 0 := by rw [hushE, if_pos hn, if_neg (by simpa using g)]
      rw [hushS, e1, if_pos rfl]
      exact h.wr hk (by simp) rfl fun w1 hT => ⟨rfl, hT⟩
theorem hush_ok (h : IrO b w F s) (n : Int) : Calls Try.prog 9 #[.pointer (some ⟨b, 0, none⟩), .int .i64 n] w fun e w' => e = .returned (.int .i64 (hushE s n true)) ∧ Turn (IrO b) w w' F (hushS s n true) := by
  refine u9 ?_
  rw [t9]
  refine ⟨(ihush_ok h n true).mono ?_⟩
  rintro e w' ⟨rfl, hT⟩
  exact ⟨_, rfl, rfl, hT⟩
theorem unhush_ok (h : IrO b w F s) (n : Int) : Calls Try.prog 13 #[.pointer (some ⟨b, 0, none⟩), .int .i64 n] w fun e w' => e = .returned (.int .i64 (hushE s n false)) ∧ Turn (IrO b) w w' F (hushS s n false) := by
  refine u13 ?_
  rw [t13]
  refine ⟨(ihush_ok h n false).mono ?_⟩
  rintro e w' ⟨rfl, hT⟩
  exact ⟨_, rfl, rfl, hT⟩
theorem ready_ok (h : IrO b w F s) (n : Int) : Calls Try.prog 11 #[.pointer (some ⟨b, 0, none⟩), .int .i64 n] w fun e w' => e = .returned (.bool (readyE s n)) ∧ w' = w := by
  refine u11 ?_
  rw [t11]
  refine ⟨(wanted_ok h n).mono ?_⟩
  rintro e w' ⟨⟨hn, rfl⟩ | ⟨hn, k, rfl, hk, rfl⟩, rfl⟩
  · have e1 : readyE s n = false := by simp [readyE, hn]
    rw [e1]
    exact ⟨_, _, rfl, fun g => absurd (by simpa using g) hn, fun _ => ⟨rfl, rfl⟩⟩
  · refine ⟨_, _, rfl, fun _ => ⟨_, rfl, _, h.cell hk rfl, fun g => ⟨_, rfl, _, h.cell hk rfl, ?_, rfl⟩, fun g => ⟨?_, rfl⟩⟩, fun g => by simp at g⟩
    · have e1 : readyE s k = !(gq s k).2.1 := by simp [readyE, hn, g]
      rw [e1]
    · have e1 : readyE s k = false := by simp [readyE, g]
      rw [e1]
theorem clear_ok (h : IrO b w F s) (n : Int) : Calls Try.prog 12 #[.pointer (some ⟨b, 0, none⟩), .int .i64 n] w fun e w' => e = .returned (.int .i64 (clearE s n)) ∧ Turn (IrO b) w w' F (clearS s n) := by
  refine u12 ?_
  rw [t12]
  refine ⟨(wanted_ok h n).mono ?_⟩
  rintro e w' ⟨⟨hn, rfl⟩ | ⟨hn, k, rfl, hk, rfl⟩, rfl⟩
  · have e1 : clearE s n = wantE s n := by rw [clearE, if_neg hn]
    rw [clearS, e1, if_neg hn]
    exact ⟨_, _, rfl, fun _ => ⟨rfl, Turn.same h⟩, fun g => absurd (by simpa using g) hn⟩
  · refine ⟨_, _, rfl, fun g => by simp at g, fun _ => ⟨_, rfl, _, h.cell hk rfl, fun g1 => ⟨_, rfl, _, h.cell hk rfl, fun g2 => ?_, fun g2 => ⟨_, rfl, ?_⟩⟩, fun g1 => ?_⟩⟩
    · have e1 : clearE s k = 12 := by rw [clearE, if_pos hn, if_neg (by simp [readyE, g2])]
      rw [clearS, e1]
      exact ⟨rfl, Turn.same h⟩
    · have g1 : (gq s k).2.2.1 = true := by simpa using g1
      have e1 : clearE s k = 0 := by rw [clearE, if_pos hn, if_pos (by simp [readyE, hn, g1, g2])]
      rw [clearS, e1, if_pos rfl]
      exact h.wr hk (by simp) rfl fun w1 hT => ⟨rfl, hT⟩
    · have g1 : (gq s k).2.2.1 = false := by simpa using g1
      have e1 : clearE s k = 12 := by rw [clearE, if_pos hn, if_neg (by simp [readyE, g1])]
      rw [clearS, e1]
      exact ⟨rfl, Turn.same h⟩
theorem request_ok (h : IrO b w F s) (n : Int) (m : BV) : Calls Try.prog 8 #[.pointer (some ⟨b, 0, none⟩), .int .i64 n, .int .u64 (mi m)] w fun e w' => e = .returned (.int .i64 (reqE s n m)) ∧ Turn (IrO b) w w' F (reqS s n m) := by
  refine u8 ?_
  rw [t8]
  refine ⟨(find_ok b n w).mono ?_⟩
  rintro e w' ⟨⟨hn, rfl⟩ | ⟨hn, k, rfl, hk, rfl⟩, rfl⟩
  · have e1 : reqE s n m = 3 := by simp [reqE, hn]
    rw [reqS, e1]
    exact ⟨_, _, rfl, fun _ => ⟨rfl, Turn.same h⟩, fun g => by simp at g⟩
  · refine ⟨_, _, rfl, fun g => by simp at g, fun _ => ⟨_, rfl, _, h.cell hk rfl, fun g1 => ?_, fun g1 => ⟨(iright_ok h m).mono ?_⟩⟩⟩
    · have e1 : reqE s k m = 6 := by rw [reqE, if_neg hn, if_pos g1]
      rw [reqS, e1]
      exact ⟨rfl, Turn.same h⟩
    · rintro e w1 ⟨rfl, rfl⟩
      refine ⟨_, rfl, fun g => ?_, fun g => ⟨_, rfl, ?_⟩⟩
      · have e1 : reqE s k m = 2 := by rw [reqE, if_neg hn, if_neg (by simp [g1]), if_neg (by simpa using g)]
        rw [reqS, e1]
        exact ⟨rfl, Turn.same h⟩
      · have e1 : reqE s k m = 0 := by rw [reqE, if_neg hn, if_neg (by simp [g1]), if_pos (by simpa using g)]
        rw [reqS, e1, if_pos rfl]
        exact h.wr0 (q := (true, false, false, m)) hk rfl fun w1 hT => ⟨rfl, hT⟩
theorem list_ok (h : IrO b w F s) : Calls Try.prog 18 #[.pointer (some ⟨b, 0, none⟩)] w fun e w' => ∃ p c, e = .returned (.slice p (listL s).length c) ∧ Loc w w' 3 p c (listL s) := by
  have hl := h.2
  refine u18 ?_
  rw [t18]
  refine ⟨fun g => by simp at g, fun _ => ⟨_, rfl, s.2.flatMap iqE, ir_len hl, ?_, ⟨WP_loop okProg (M := M18) (σ := Nat × Option Addr × Nat) (fun x => e18_1 x.2.1 (upto (listP s) x.1).length x.2.2 (s.2.flatMap iqE) x.1)
    (fun x w' => x.1 ≤ 16 ∧ Loc w w' 3 x.2.1 x.2.2 (upto (listP s) x.1)) (fun x _ => 16 - x.1) (0, none, 0) ⟨rfl, rfl, rfl, trivial⟩ ⟨by simp, Loc.nil (Upd.refl _ _) _⟩ ?_⟩⟩⟩
  · intro j v hj
    rw [Addr.add_add]
    refine h.1.blk.cell ?_
    have hj64 : j < 64 := by have := (List.getElem?_eq_some_iff.1 hj).1; rwa [ir_len hl] at this
    rw [irE, Nat.zero_add, List.getElem?_append_left (by rw [ir_len hl]; exact hj64)]
    exact hj
  · rintro ⟨i, p, d⟩ w1 ⟨h1, hL⟩
    simp only at h1 hL ⊢
    rw [t18_1]
    have hs1 := upto_succ (listP s) i
    have hb := upto_length (listP s) i
    refine ⟨fun hlt => ?_, fun hge => ?_⟩
    · have hi : i < 16 := by simp at hlt; omega
      have hsl := flat_slice iqE_len (l := s.2) (k := i) (by omega)
      have hlp : listP s i = (s.2[i]'(by omega)).1 := by unfold listP; rw [gq_get hl hi]
      refine ⟨⟨by omega, by omega⟩, _, _, _, _, hsl, ⟨fun w2 hN => ?_⟩⟩
      refine hN.blk'.wr0 (by simp) (fun w3 hW => ?_)
      refine ⟨_, hW.blk'.cell rfl, fun g => ⟨fun w4 hN4 => ?_⟩, fun g => ?_⟩
      · have hL3 : Loc w w3 3 p d (upto (listP s) i) := ⟨hL.U.and ((hN.upd no).trans (hW.U) (fun j hj e => absurd hj (by omega))), ?_, hL.F⟩
        · obtain ⟨p', c', w5, hr, hL'⟩ := hL3.push elI (by omega) hN4 41
          rw [if_pos (by rw [hlp]; exact g)] at hs1
          exact ⟨p', _, c', w5, hr, (i + 1, p', c'), ⟨by rw [hs1]; rfl, rfl, by rw [w64 (by omega)]; rfl, trivial⟩, ⟨by simp only; omega, by rw [hs1]; exact hL'⟩, by simp only; omega⟩
        · exact (hL.S.upd (hN.upd no) (fun _ _ h => h)).upd hW.U (fun j hj e => by have := hL.S.lt j hj; omega)
      · have hL3 : Loc w w3 3 p d (upto (listP s) i) := ⟨hL.U.and ((hN.upd no).trans (hW.U) (fun j hj e => absurd hj (by omega))), (hL.S.upd (hN.upd no) (fun _ _ h => h)).upd hW.U (fun j hj e => by have := hL.S.lt j hj; omega), hL.F⟩
        rw [if_neg (by rw [hlp, g]; decide)] at hs1
        exact ⟨(i + 1, p, d), ⟨by rw [hs1]; rfl, rfl, by rw [w64 (by omega)]; rfl, trivial⟩, ⟨by simp only; omega, by rw [hs1]; exact hL3⟩, by simp only; omega⟩
    · have : i = 16 := by simp at hge; omega
      subst this
      exact ⟨p, d, rfl, hL⟩
end
theorem new_ok (n : Int) (w : World) : Calls Try.prog 6 #[.int .i64 n] w fun e w' =>
    (¬ (1 ≤ n ∧ n ≤ 64) ∧ e = .returned (.tuple #[.pointer none, .int .i64 2]) ∧ w' = w) ∨
    ((1 ≤ n ∧ n ≤ 64) ∧ ∃ b F, e = .returned (.tuple #[.pointer (some ⟨b, 0, none⟩), .int .i64 0]) ∧ IrO b w' F (n, List.replicate 16 i0) ∧ Upd no w w' ∧ ∀ i, F i → w.heap.size ≤ i) := by
  refine u6 ?_
  rw [t6]
  refine ⟨fun h1 => ⟨fun h2 => .inl ⟨by simp at h2; omega, rfl, rfl⟩, fun h2 => ⟨(mUpto_ok n w).mono ?_⟩⟩, fun h1 => .inl ⟨by simp at h1; omega, rfl, rfl⟩⟩
  rintro e w1 ⟨rfl, rfl⟩
  exact ⟨_, rfl, ⟨fun w2 hN => .inr ⟨by simp at h1 h2; omega, w1.heap.size, fun i => i = w1.heap.size, rfl, ⟨Rw.new hN rfl, rfl⟩, hN.upd no, fun i hi => Nat.le_of_eq hi.symm⟩⟩⟩
end Go.Dav
