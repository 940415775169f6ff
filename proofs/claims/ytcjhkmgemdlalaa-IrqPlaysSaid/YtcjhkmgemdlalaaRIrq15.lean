/- What the document's table of interrupts comes to. -/
import Derived.Test.YtcjhkmgemdlalaaIrq15
namespace Go.Dav
open Go.Proofs

abbrev QiO (b : Nat) : Ob (IrS × Option Addr × Nat) := Hd b 52 49 4 (fun (s : IrS) p c => [.int .i64 s.1, .slice p s.2.length c]) (fun s => s.2.length) (fun s => s.2.flatMap iqE)
theorem elQ : ElemT Try.prog 50 49 4 16 (iqE i0) := ⟨by kernel_rfl, by kernel_rfl, rfl, by omega⟩

section
variable {w : World} {F : Fp} {b : Nat} {s : IrS} {y : Option Addr × Nat}

/-- The slice's place, and its cells. -/
theorem QiO.at (h : QiO b w F (s, y)) (hl : s.2.length = 16) {k : Nat} (hk : k < 16) : ∃ a, y.1 = some a ∧ ∀ (j : Nat) v, (iqE (gq s (k : Int)))[j]? = some v → w.cell? ((a.add (k * 4)).add j) = some v := by
  rw [gq_get hl hk]
  exact h.sl.cells.atk iqE_len (by decide) (l := s.2) (by omega)
theorem QiO.wr (h : QiO b w F (s, y)) (hl : s.2.length = 16) {k j : Nat} (hk : k < 16) {vs : List Value} {q : Iq} (hj : j + vs.length ≤ 4) (hq : iqE q = setL (iqE (gq s (k : Int))) j vs) {a : Addr} (ha : y.1 = some a) {K : World → Prop}
    (hK : ∀ w', Turn (QiO b) w w' F (iput s (k : Int) q, y) → K w') : Wr w ((a.add (k * 4)).add j) vs K := by
  rw [gq_get hl hk] at hq
  have hS := h.sl
  simp only at hS
  rw [ha] at hS
  rw [Addr.add_add]
  refine hS.wr (o := k * 4 + j) (by rw [hl]; omega) (fun w1 hS1 hU => hK w1 ?_)
  rw [setL_flat iqE_len (by omega) hj hq] at hS1
  refine h.elems (s' := iput s (k : Int) q) ?_ (by rw [ha]; exact hU) (by simp [iput])
  simp only [iput, List.length_set]
  rw [ha]
  exact hS1
theorem QiO.wr0 (h : QiO b w F (s, y)) (hl : s.2.length = 16) {k : Nat} (hk : k < 16) {vs : List Value} {q : Iq} (hq : vs = iqE q) {a : Addr} (ha : y.1 = some a) {K : World → Prop}
    (hK : ∀ w', Turn (QiO b) w w' F (iput s (k : Int) q, y) → K w') : Wr w (a.add (k * 4)) vs K := by
  subst hq
  have e : (a.add (k * 4)).add 0 = a.add (k * 4) := by rw [Addr.add_add]; rfl
  rw [← e]
  exact h.wr hl hk (by rw [iqE_len]; omega) (by simp [setL, iqE]) ha hK

theorem is_ok (h : QiO b w F (s, y)) (hl : s.2.length = 16) (n : Int) : Calls Try.prog 21 #[.pointer (some ⟨b, 0, none⟩), .int .i64 n] w fun e w' => e = .returned (.bool (decide (¬ nout n))) ∧ w' = w := by
  refine u21 ?_
  rw [t21]
  refine ⟨fun g => ⟨_, rfl, _, _, _, h.blk.cell rfl, ?_, rfl⟩, fun g => ⟨?_, rfl⟩⟩
  · congr 2
    rw [Bool.eq_iff_iff]
    simp only [decide_eq_true_iff] at g ⊢
    rw [hl]
    unfold nout; omega
  · congr 2
    symm
    simp only [decide_eq_false_iff_not] at g ⊢
    unfold nout; omega
theorem rwanted_ok (h : QiO b w F (s, y)) (hl : s.2.length = 16) (n : Int) : Calls Try.prog 39 #[.pointer (some ⟨b, 0, none⟩), .int .i64 n] w fun e w' => e = .returned (.int .i64 (wantE s n)) ∧ w' = w := by
  refine u39 ?_
  rw [t39]
  refine ⟨(is_ok h hl n).mono ?_⟩
  rintro e w' ⟨rfl, rfl⟩
  by_cases hn : nout n
  · have e1 : wantE s n = 3 := by simp [wantE, hn]
    rw [e1]
    exact ⟨_, rfl, fun _ => ⟨rfl, rfl⟩, fun g => by simp [hn] at g⟩
  · obtain ⟨k, rfl⟩ : ∃ k : Nat, n = k := ⟨n.toNat, by unfold nout at hn; omega⟩
    have hk : k < 16 := by unfold nout at hn; omega
    obtain ⟨a, ha, hc⟩ := h.at hl hk
    refine ⟨_, rfl, fun g => by simp [hn] at g, fun _ => ⟨_, rfl, _, _, _, h.blk.cell rfl, ⟨by omega, by simp only; omega⟩, a, ha, _, hc 0 _ rfl, fun g => ⟨?_, rfl⟩, fun g => ⟨?_, rfl⟩⟩⟩
    · rw [wantE, if_neg hn, if_neg (by simpa using g)]
    · rw [wantE, if_neg hn, if_pos (by simpa using g)]
theorem want_in {n : Int} (h : wantE s n = 0) : ∃ k : Nat, n = k ∧ k < 16 := by
  unfold wantE at h
  split at h
  · omega
  · rename_i hn
    unfold nout at hn
    exact ⟨n.toNat, by omega, by omega⟩

theorem rraise_ok (h : QiO b w F (s, y)) (hl : s.2.length = 16) (n : Int) : Calls Try.prog 34 #[.pointer (some ⟨b, 0, none⟩), .int .i64 n] w fun e w' => e = .returned (.int .i64 (wantE s n)) ∧ Turn (QiO b) w w' F (raiseS s n, y) := by
  refine u34 ?_
  rw [t34]
  refine ⟨(rwanted_ok h hl n).mono ?_⟩
  rintro e w' ⟨rfl, rfl⟩
  refine ⟨_, rfl, fun g => ?_, fun g => ?_⟩
  · have hn : wantE s n = 0 := by simpa using g
    obtain ⟨k, rfl, hk⟩ := want_in hn
    obtain ⟨a, ha, hc⟩ := h.at hl hk
    rw [raiseS, if_pos hn]
    exact ⟨_, rfl, _, _, _, h.blk.cell rfl, ⟨by omega, by simp only; omega⟩, a, ha, h.wr hl hk (by simp) rfl ha fun w1 hT => ⟨rfl, hT⟩⟩
  · rw [raiseS, if_neg (by simpa using g)]
    exact ⟨rfl, Turn.same h⟩
theorem rfree_ok (h : QiO b w F (s, y)) (hl : s.2.length = 16) (n : Int) : Calls Try.prog 31 #[.pointer (some ⟨b, 0, none⟩), .int .i64 n] w fun e w' => e = .returned (.int .i64 (wantE s n)) ∧ Turn (QiO b) w w' F (freeS s n, y) := by
  refine u31 ?_
  rw [t31]
  refine ⟨(rwanted_ok h hl n).mono ?_⟩
  rintro e w' ⟨rfl, rfl⟩
  refine ⟨_, rfl, fun g => ?_, fun g => ?_⟩
  · have hn : wantE s n = 0 := by simpa using g
    obtain ⟨k, rfl, hk⟩ := want_in hn
    obtain ⟨a, ha, hc⟩ := h.at hl hk
    rw [freeS, if_pos hn]
    exact ⟨_, rfl, _, _, _, h.blk.cell rfl, ⟨by omega, by simp only; omega⟩, a, ha, h.wr0 (q := i0) hl hk rfl ha fun w1 hT => ⟨rfl, hT⟩⟩
  · rw [freeS, if_neg (by simpa using g)]
    exact ⟨rfl, Turn.same h⟩
theorem raim_ok (h : QiO b w F (s, y)) (hl : s.2.length = 16) (n : Int) (m : BV) : Calls Try.prog 32 #[.pointer (some ⟨b, 0, none⟩), .int .i64 n, .int .u64 (mi m)] w fun e w' => e = .returned (.int .i64 (aimE s n m)) ∧ Turn (QiO b) w w' F (aimS s n m, y) := by
  refine u32 ?_
  rw [t32]
  refine ⟨(rwanted_ok h hl n).mono ?_⟩
  rintro e w' ⟨rfl, rfl⟩
  refine ⟨_, rfl, fun g => ?_, fun g => ⟨_, rfl, _, h.blk.cell rfl, ⟨(right_ok s.1 m w').mono ?_⟩⟩⟩
  · have hn : ¬ wantE s n = 0 := by simpa using g
    have e1 : aimE s n m = wantE s n := by rw [aimE, if_neg hn]
    rw [aimS, e1, if_neg hn]
    exact ⟨rfl, Turn.same h⟩
  · have hn : wantE s n = 0 := by simpa using g
    obtain ⟨k, rfl, hk⟩ := want_in hn
    rintro e w1 ⟨rfl, hU⟩
    have h1 : QiO b w1 F (s, y) := (Frame.hd ..).upd h hU (fun _ _ h => h)
    refine ⟨_, rfl, fun g => ?_, fun g => ?_⟩
    · have e1 : aimE s k m = 2 := by rw [aimE, if_pos hn, if_neg (by simpa using g)]
      rw [aimS, e1]
      exact ⟨rfl, Turn.quiet h hU⟩
    · have e1 : aimE s k m = 0 := by rw [aimE, if_pos hn, if_pos (by simpa using g)]
      rw [aimS, e1, if_pos rfl]
      obtain ⟨a, ha, hc⟩ := h1.at hl hk
      exact ⟨_, rfl, _, _, _, h1.blk.cell rfl, ⟨by omega, by simp only; omega⟩, a, ha, h1.wr hl hk (by simp) rfl ha fun w2 ⟨F', t1, t2, t3⟩ => ⟨rfl, F', t1, (hU.mono fun _ _ h => h.elim).trans t2 (fun _ _ h => h), fun i hi => (t3 i hi).imp id (fun h => Nat.le_trans hU.size h)⟩⟩
theorem rhush_ok (h : QiO b w F (s, y)) (hl : s.2.length = 16) (n : Int) (is : Bool) : Calls Try.prog 33 #[.pointer (some ⟨b, 0, none⟩), .int .i64 n, .bool is] w fun e w' => e = .returned (.int .i64 (hushE s n is)) ∧ Turn (QiO b) w w' F (hushS s n is, y) := by
  refine u33 ?_
  rw [t33]
  refine ⟨(rwanted_ok h hl n).mono ?_⟩
  rintro e w' ⟨rfl, rfl⟩
  refine ⟨_, rfl, fun g => ?_, fun g => ?_⟩
  · have hn : ¬ wantE s n = 0 := by simpa using g
    have e1 : hushE s n is = wantE s n := by rw [hushE, if_neg hn]
    rw [hushS, e1, if_neg hn]
    exact ⟨rfl, Turn.same h⟩
  · have hn : wantE s n = 0 := by simpa using g
    obtain ⟨k, rfl, hk⟩ := want_in hn
    obtain ⟨a, ha, hc⟩ := h.at hl hk
    refine ⟨_, rfl, _, _, _, h.blk.cell rfl, ⟨by omega, by simp only; omega⟩, a, ha, _, hc 1 _ rfl, fun g => ?_, fun g => ?_⟩
    · have e1 : hushE s k is = 6 := by rw [hushE, if_pos hn, if_pos (by simpa using g)]
      rw [hushS, e1]
      exact ⟨rfl, Turn.same h⟩
    · have e1 : hushE s k is = 0 := by rw [hushE, if_pos hn, if_neg (by simpa using g)]
      rw [hushS, e1, if_pos rfl]
      exact ⟨_, rfl, _, _, _, h.blk.cell rfl, ⟨by omega, by simp only; omega⟩, a, ha, h.wr hl hk (by simp) rfl ha fun w1 hT => ⟨rfl, hT⟩⟩
theorem rready_ok (h : QiO b w F (s, y)) (hl : s.2.length = 16) (n : Int) : Calls Try.prog 16 #[.pointer (some ⟨b, 0, none⟩), .int .i64 n] w fun e w' => e = .returned (.bool (readyE s n)) ∧ w' = w := by
  refine u16 ?_
  rw [t16]
  refine ⟨(is_ok h hl n).mono ?_⟩
  rintro e w' ⟨rfl, rfl⟩
  by_cases hn : nout n
  · have e1 : readyE s n = false := by simp [readyE, wantE, hn]
    rw [e1]
    exact ⟨_, rfl, fun g => by simp [hn] at g, fun _ => ⟨rfl, rfl⟩⟩
  · obtain ⟨k, rfl⟩ : ∃ k : Nat, n = k := ⟨n.toNat, by unfold nout at hn; omega⟩
    have hk : k < 16 := by unfold nout at hn; omega
    obtain ⟨a, ha, hc⟩ := h.at hl hk
    have hr : readyE s k = ((gq s k).1 && (gq s k).2.2.1 && !(gq s k).2.1) := by
      unfold readyE wantE
      rw [if_neg hn]
      cases (gq s k).1 <;> simp
    rw [hr]
    refine ⟨_, rfl, fun _ => ⟨_, rfl, _, _, _, h.blk.cell rfl, ⟨by omega, by simp only; omega⟩, a, ha, _, hc 0 _ rfl, fun g1 => ⟨_, rfl, _, _, _, h.blk.cell rfl, ⟨by omega, by simp only; omega⟩, a, ha, _, hc 2 _ rfl, fun g2 => ⟨_, rfl, _, _, _, h.blk.cell rfl, ⟨by omega, by simp only; omega⟩, a, ha, _, hc 1 _ rfl, ?_, rfl⟩, fun g2 => ⟨?_, rfl⟩⟩, fun g1 => ⟨?_, rfl⟩⟩, fun g => by simp [hn] at g⟩
    · rw [g1, g2]; rfl
    · rw [g2]; simp
    · rw [g1]; rfl
theorem rclear_ok (h : QiO b w F (s, y)) (hl : s.2.length = 16) (n : Int) : Calls Try.prog 35 #[.pointer (some ⟨b, 0, none⟩), .int .i64 n] w fun e w' => e = .returned (.int .i64 (clearE s n)) ∧ Turn (QiO b) w w' F (clearS s n, y) := by
  refine u35 ?_
  rw [t35]
  refine ⟨(rwanted_ok h hl n).mono ?_⟩
  rintro e w' ⟨rfl, rfl⟩
  refine ⟨_, rfl, fun g => ?_, fun g => ⟨(rready_ok h hl n).mono ?_⟩⟩
  · have hn : ¬ wantE s n = 0 := by simpa using g
    have e1 : clearE s n = wantE s n := by rw [clearE, if_neg hn]
    rw [clearS, e1, if_neg hn]
    exact ⟨rfl, Turn.same h⟩
  · have hn : wantE s n = 0 := by simpa using g
    obtain ⟨k, rfl, hk⟩ := want_in hn
    obtain ⟨a, ha, hc⟩ := h.at hl hk
    rintro e w1 ⟨rfl, rfl⟩
    refine ⟨_, rfl, fun g => ?_, fun g => ?_⟩
    · have e1 : clearE s k = 12 := by rw [clearE, if_pos hn, if_neg (by simpa using g)]
      rw [clearS, e1]
      exact ⟨rfl, Turn.same h⟩
    · have e1 : clearE s k = 0 := by rw [clearE, if_pos hn, if_pos (by simpa using g)]
      rw [clearS, e1, if_pos rfl]
      exact ⟨_, rfl, _, _, _, h.blk.cell rfl, ⟨by omega, by simp only; omega⟩, a, ha, h.wr hl hk (by simp) rfl ha fun w1 hT => ⟨rfl, hT⟩⟩
theorem rrequest_ok (h : QiO b w F (s, y)) (hl : s.2.length = 16) (n : Int) (m : BV) : Calls Try.prog 30 #[.pointer (some ⟨b, 0, none⟩), .int .i64 n, .int .u64 (mi m)] w fun e w' => e = .returned (.int .i64 (reqE s n m)) ∧ Turn (QiO b) w w' F (reqS s n m, y) := by
  refine u30 ?_
  rw [t30]
  refine ⟨(is_ok h hl n).mono ?_⟩
  rintro e w' ⟨rfl, rfl⟩
  by_cases hn : nout n
  · have e1 : reqE s n m = 3 := by simp [reqE, hn]
    rw [reqS, e1]
    exact ⟨_, rfl, fun _ => ⟨rfl, Turn.same h⟩, fun g => by simp [hn] at g⟩
  · obtain ⟨k, rfl⟩ : ∃ k : Nat, n = k := ⟨n.toNat, by unfold nout at hn; omega⟩
    have hk : k < 16 := by unfold nout at hn; omega
    obtain ⟨a, ha, hc⟩ := h.at hl hk
    refine ⟨_, rfl, fun g => by simp [hn] at g, fun _ => ⟨_, rfl, _, _, _, h.blk.cell rfl, ⟨by omega, by simp only; omega⟩, a, ha, _, hc 0 _ rfl, fun g1 => ?_, fun g1 => ⟨_, rfl, _, h.blk.cell rfl, ⟨(right_ok s.1 m w').mono ?_⟩⟩⟩⟩
    · have e1 : reqE s k m = 6 := by rw [reqE, if_neg hn, if_pos g1]
      rw [reqS, e1]
      exact ⟨rfl, Turn.same h⟩
    · rintro e w1 ⟨rfl, hU⟩
      have h1 : QiO b w1 F (s, y) := (Frame.hd ..).upd h hU (fun _ _ h => h)
      refine ⟨_, rfl, fun g => ?_, fun g => ?_⟩
      · have e1 : reqE s k m = 2 := by rw [reqE, if_neg hn, if_neg (by simp [g1]), if_neg (by simpa using g)]
        rw [reqS, e1]
        exact ⟨rfl, Turn.quiet h hU⟩
      · have e1 : reqE s k m = 0 := by rw [reqE, if_neg hn, if_neg (by simp [g1]), if_pos (by simpa using g)]
        rw [reqS, e1, if_pos rfl]
        exact ⟨_, rfl, _, _, _, h1.blk.cell rfl, ⟨by omega, by simp only; omega⟩, a, ha, h1.wr0 (q := (true, false, false, m)) hl hk rfl ha fun w2 ⟨F', t1, t2, t3⟩ => ⟨rfl, F', t1, (hU.mono fun _ _ h => h.elim).trans t2 (fun _ _ h => h), fun i hi => (t3 i hi).imp id (fun h => Nat.le_trans hU.size h)⟩⟩
theorem rlist_ok (h : QiO b w F (s, y)) (hl : s.2.length = 16) : Calls Try.prog 19 #[.pointer (some ⟨b, 0, none⟩)] w fun e w' => ∃ p c, e = .returned (.slice p (listL s).length c) ∧ Loc w w' 3 p c (listL s) := by
  refine u19 ?_
  rw [t19]
  refine ⟨WP_loop okProg (M := M19) (σ := Nat × Option Addr × Nat) (fun x => e19_1 (some ⟨b, 0, none⟩) x.2.1 (upto (listP s) x.1).length x.2.2 x.1)
    (fun x w' => x.1 ≤ 16 ∧ Loc w w' 3 x.2.1 x.2.2 (upto (listP s) x.1)) (fun x _ => 16 - x.1) (0, none, 0) ⟨rfl, rfl, rfl, trivial⟩ ⟨by simp, Loc.nil (Upd.refl _ _) _⟩ ?_⟩
  rintro ⟨i, p, d⟩ w1 ⟨h1, hL⟩
  simp only at h1 hL ⊢
  rw [t19_1]
  have hs1 := upto_succ (listP s) i
  have hb := upto_length (listP s) i
  have hw : QiO b w1 F (s, y) := (Frame.hd ..).upd h hL.U (fun _ _ h => h)
  refine ⟨_, rfl, _, _, _, hw.blk.cell rfl, fun hlt => ?_, fun hge => ?_⟩
  · have hi : i < 16 := by simp [hl] at hlt; omega
    obtain ⟨a, ha, hc⟩ := hw.at hl hi
    refine ⟨_, rfl, _, _, _, hw.blk.cell rfl, ⟨by omega, by simp only; omega⟩, a, ha, _, hc 0 _ rfl, fun g => ⟨fun w2 hN => ?_⟩, fun g => ?_⟩
    · obtain ⟨p', c', w3, hr, hL'⟩ := hL.push elI (by omega) hN 41
      rw [if_pos (by unfold listP; exact g)] at hs1
      exact ⟨p', _, c', w3, hr, (i + 1, p', c'), ⟨rfl, by rw [hs1]; rfl, by rw [w64 (by omega)]; rfl, trivial⟩, ⟨by simp only; omega, by rw [hs1]; exact hL'⟩, by simp only; omega⟩
    · rw [if_neg (by unfold listP; rw [g]; decide)] at hs1
      exact ⟨(i + 1, p, d), ⟨rfl, by rw [hs1]; rfl, by rw [w64 (by omega)]; rfl, trivial⟩, ⟨by simp only; omega, by rw [hs1]; exact hL⟩, by simp only; omega⟩
  · have : i = 16 := by simp [hl] at hge; omega
    subst this
    exact ⟨p, d, rfl, hL⟩
end
end Go.Dav
