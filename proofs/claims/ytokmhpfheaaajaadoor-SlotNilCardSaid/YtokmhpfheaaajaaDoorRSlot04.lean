/- What the document's functions of numbers that are given out come to. -/
import Derived.Test.YtokmhpfheaaajaaDoorSlot04
set_option linter.unusedSimpArgs false
set_option linter.unusedVariables false
namespace Go.Dav
open Go.Proofs
theorem elB : ElemT Tryd.prog 48 4 1 1 [.bool false] := ⟨by kernel_rfl, by kernel_rfl, rfl, by omega⟩
def rlE (l : List Bool) (p : Option Addr) (c : Nat) : List Value := [.slice p l.length c]
abbrev RlH (b : Nat) : Ob (List Bool × Option Addr × Nat) := Hd b 50 4 1 rlE (fun l => l.length) (fun l => l.map Value.bool)
/-- The document's table: the place 0 is none's. -/
def RsO (b : Nat) : Ob (List Bool) := fun w F o => ∃ y, RlH b w F (false :: o, y) ∧ 1 ≤ o.length ∧ o.length ≤ 1024
instance Frame.rso (b : Nat) : Frame (RsO b) where
  upd := fun ⟨y, h, r⟩ k hG => ⟨y, (Frame.hd ..).upd h k hG, r⟩
  lt := fun ⟨_, h, _⟩ => (Frame.hd ..).lt h
section
variable {w : World} {F : Fp} {b : Nat} {o : List Bool}
theorem RsO.at (h : RsO b w F o) : ∃ p c, w.cell? ((⟨b, 0, none⟩ : Addr).add 0) = some (.slice p (o.length + 1) c) ∧ (∀ (j : Nat) (hj : j < o.length), ∃ a, p = some a ∧ w.cell? (a.add ((j + 1) * 1)) = some (.bool o[j])) ∧
    ∀ {k : Nat} {v : Bool} (_ : k < o.length) {K : World → Prop}, (∀ w', Turn (RsO b) w w' F (o.set k v) → K w') → ∃ a, p = some a ∧ Wr w (a.add ((k + 1) * 1)) [.bool v] K := by
  obtain ⟨y, h1, h2⟩ := h
  refine ⟨y.1, y.2, h1.blk.cell rfl, fun j hj => h1.sl.cells.at1 (l := false :: o) (i := j + 1) (by simpa using hj), fun {k v} hk {K} hK => ?_⟩
  obtain ⟨a, ha, _⟩ := h1.sl.cells.at1 (l := false :: o) (i := k + 1) (by simpa using hk)
  refine ⟨a, ha, ?_⟩
  have hS := h1.sl
  simp only at ha hS
  rw [ha] at hS
  refine hS.wr (o := (k + 1) * 1) (by simp; omega) fun w' hS' hU => hK w' ?_
  rw [Nat.mul_one, setL_set (by simpa using hk), List.set_cons_succ] at hS'
  obtain ⟨F', t1, t2, t3⟩ := h1.elems (w' := w') (s' := false :: o.set k v) (by simp only [List.length_cons, List.length_set] at hS' ⊢; rw [ha]; exact hS') (by rw [ha]; exact hU) (by unfold rlE; simp)
  exact ⟨F', ⟨y, t1, by simpa using h2⟩, t2, t3⟩

theorem rslNew_ok (n : Int) (w : World) : Calls Tryd.prog 11 #[.int .i64 n] w fun e w' =>
    (¬ (1 ≤ n ∧ n ≤ 1024) ∧ e = .returned (.tuple #[.pointer none, .int .i64 2]) ∧ w' = w) ∨
    ((1 ≤ n ∧ n ≤ 1024) ∧ ∃ b F, e = .returned (.tuple #[.pointer (some ⟨b, 0, none⟩), .int .i64 0]) ∧ RsO b w' F (List.replicate n.toNat false) ∧ Upd no w w' ∧ ∀ i, F i → w.heap.size ≤ i) := by
  refine u11 ?_
  rw [t11]
  refine ⟨fun h1 => ⟨fun h2 => .inl ⟨?_, rfl, rfl⟩, fun h2 => ⟨fun w1 hN => ?_⟩⟩, fun h1 => .inl ⟨?_, rfl, rfl⟩⟩
  · simp at h2; omega
  · have h1 : ¬ n < 1 := by simpa using h1
    have h2 : ¬ 1024 < n := by simpa using h2
    obtain ⟨m, rfl⟩ : ∃ m : Nat, n = m := ⟨n.toNat, by omega⟩
    have hM : Mine w w1 (RlH w.heap.size) ([], none, 0) := Mine.new (Upd.refl _ _) (hN.upd no) (Hd.nil (s := []) hN rfl rfl rfl) (fun _ h => Nat.le_of_eq h.symm)
    refine ⟨WP_loop okProg (M := M11) (σ := Nat × Option Addr × Nat) (fun x => e11_1 (m : Int) (some ⟨w.heap.size, 0, none⟩) (x.1 : Int)) (fun x w' => x.1 ≤ m + 1 ∧ Mine w w' (RlH w.heap.size) (List.replicate x.1 false, x.2)) (fun x _ => m + 1 - x.1) (0, none, 0) ⟨rfl, rfl, rfl, trivial⟩ ⟨by omega, hM⟩ ?_⟩
    clear hM hN
    rintro ⟨i, y⟩ w2 ⟨k1, hM⟩
    simp only at k1 hM ⊢
    rw [t11_1]
    refine ⟨fun g => ?_, fun g => ?_⟩
    · have hi : i < m + 1 := by simp at g; omega
      obtain ⟨F, hA, hT⟩ := hM.turn
      refine ⟨_, rfl, _, _, _, hA.blk.cell rfl, ⟨fun w3 hN => ?_⟩⟩
      have hS := hA.sl
      simp only [List.length_replicate] at hS
      obtain ⟨p', c', w4, hr, hS', hU, hF⟩ := append1v elB (v := .bool false) rfl hS (by omega) (by omega) hN 48
      have hr' := hr
      rw [← List.length_replicate (n := i) (a := false)] at hr'
      have hB := hA.blkU (w1 := w4) hU
      refine ⟨p', _, c', w4, by simp only [List.length_replicate]; exact hr, _, rfl, hB.wr (by simp [rlE]) fun w5 hW => ?_⟩
      have hT2 := hA.put (s' := List.replicate (i + 1) false) (p' := p') (c' := c') (w1 := w4) (w' := w5) (by simp only [List.length_replicate]; rw [List.replicate_succ', List.map_append]; exact hS') hU hF (by
        have hW' := hW
        simp only [rlE, List.length_replicate] at hW' ⊢
        exact hW')
      exact ⟨(i + 1, p', c'), ⟨rfl, rfl, by rw [w64 (by omega)]; rfl, trivial⟩, ⟨by simp only; omega, hT _ _ hT2⟩, by simp only; omega⟩
    · have : i = m + 1 := by simp at g; omega
      subst this
      obtain ⟨F, hA, hU, hF⟩ := hM
      exact .inr ⟨by omega, _, F, rfl, ⟨y, by rw [Int.toNat_natCast]; exact hA, by simp; omega, by simp; omega⟩, hU, hF⟩
  · simp at h1; omega

theorem rslHas_ok (h : RsO b w F o) (n : Int) : Calls Tryd.prog 18 #[.pointer (some ⟨b, 0, none⟩), .int .i64 n] w fun e w' => e = .returned (.bool (hasE o n)) ∧ w' = w := by
  refine u18 ?_
  rw [t18]
  obtain ⟨p, c, hc, hat, _⟩ := h.at
  refine ⟨fun g => ⟨_, rfl, _, _, _, hc, fun g2 => ?_, fun g2 => ⟨?_, rfl⟩⟩, fun g => ⟨?_, rfl⟩⟩
  · have g := of_decide_eq_true g
    have g2 := of_decide_eq_true g2
    obtain ⟨k, rfl⟩ : ∃ k : Nat, n = (k : Int) + 1 := ⟨n.toNat - 1, by omega⟩
    have hk : k < o.length := by omega
    obtain ⟨a, ha, hv⟩ := hat k hk
    refine ⟨_, rfl, _, _, _, hc, ⟨by omega, by omega⟩, a, ha, _, hv, ?_, rfl⟩
    rw [hasE_of]; simp [hk]
  · have g2 := of_decide_eq_false g2
    cases hh : hasE o n with
    | false => rfl
    | true => have := hasE_in hh; omega
  · have g := of_decide_eq_false g
    cases hh : hasE o n with
    | false => rfl
    | true => have := hasE_in hh; omega
theorem rslGive_ok (h : RsO b w F o) (n : Int) : Calls Tryd.prog 13 #[.pointer (some ⟨b, 0, none⟩), .int .i64 n] w fun e w' => e = .returned (.int .i64 (giveE o n)) ∧ Turn (RsO b) w w' F (giveS o n) := by
  refine u13 ?_
  rw [t13]
  refine ⟨(rslHas_ok h n).mono ?_⟩
  rintro e w1 ⟨rfl, rfl⟩
  refine ⟨_, rfl, fun g => ?_, fun g => ?_⟩
  · have g : hasE o n = false := by simpa using g
    rw [giveE, giveS, g]
    exact ⟨rfl, Turn.same h⟩
  · have g : hasE o n = true := by simpa using g
    have hin := hasE_in g
    obtain ⟨k, rfl⟩ : ∃ k : Nat, n = (k : Int) + 1 := ⟨n.toNat - 1, by omega⟩
    have hk : k < o.length := by omega
    obtain ⟨p, c, hc, hat, hwr⟩ := h.at
    obtain ⟨a, ha, hW⟩ := hwr (v := false) hk (K := fun w' => Ending.returned (.int .i64 0) = Ending.returned (.int .i64 (giveE o ((k : Int) + 1))) ∧ Turn (RsO b) w1 w' F (giveS o ((k : Int) + 1))) (fun w' hT => by
      rw [giveE, giveS, g, if_pos rfl, if_pos rfl, show ((k : Int) + 1).toNat - 1 = k by omega]
      exact ⟨rfl, hT⟩)
    exact ⟨_, rfl, _, _, _, hc, ⟨by omega, by omega⟩, a, ha, hW⟩
theorem rslTake_ok (h : RsO b w F o) : Calls Tryd.prog 12 #[.pointer (some ⟨b, 0, none⟩)] w fun e w' => e = .returned (.tuple #[.int .i64 (takeE o).1, .int .i64 (takeE o).2]) ∧ Turn (RsO b) w w' F (takeS o) := by
  have hl : o.length ≤ 1024 := by obtain ⟨_, _, h3⟩ := h; exact h3.2
  obtain ⟨p, c, hc, hat, hwr⟩ := h.at
  refine u12 ?_
  rw [t12]
  refine ⟨WP_loop okProg (M := M12) (σ := Nat) (fun j => e12_1 (some ⟨b, 0, none⟩) ((j : Int) + 1)) (fun j w' => j ≤ o.length ∧ (∀ i (hi : i < o.length), i < j → o[i] = true) ∧ w' = w) (fun j _ => o.length - j) 0 ⟨rfl, rfl, trivial⟩ ⟨by omega, fun i _ h => by omega, rfl⟩ ?_⟩
  rintro j w' ⟨k1, k2, rfl⟩
  rw [t12_1]
  refine ⟨_, rfl, _, _, _, hc, fun g => ?_, fun g => ?_⟩
  · have hj : j < o.length := by have := of_decide_eq_true g; omega
    obtain ⟨a, ha, hv⟩ := hat j hj
    refine ⟨_, rfl, _, _, _, hc, ⟨by omega, by omega⟩, a, ha, _, hv, fun g2 => ?_, fun g2 => ?_⟩
    · have g2 : o[j] = false := by simpa using g2
      have hf : o.findIdx? (fun x => !x) = some j := List.findIdx?_eq_some_iff_getElem.2 ⟨hj, by simp [g2], fun i hi => by simp [k2 i (by omega) hi]⟩
      obtain ⟨a, ha, hW⟩ := hwr (v := true) hj (K := fun w'' => Ending.returned (.tuple #[.int .i64 ((j : Int) + 1), .int .i64 0]) = Ending.returned (.tuple #[.int .i64 (takeE o).1, .int .i64 (takeE o).2]) ∧ Turn (RsO b) w' w'' F (takeS o)) (fun w'' hT => by simp only [takeE, takeS, hf]; exact ⟨by trivial, hT⟩)
      exact ⟨_, rfl, _, _, _, hc, ⟨by omega, by omega⟩, a, ha, hW⟩
    · have g2 : o[j] = true := by simpa using g2
      refine ⟨j + 1, ⟨rfl, by rw [w64 (by omega)]; rfl, trivial⟩, ⟨by omega, fun i hi hij => ?_, rfl⟩, by omega⟩
      by_cases hij' : i = j
      · subst hij'; exact g2
      · exact k2 i hi (by omega)
  · have : j = o.length := by have := of_decide_eq_false g; omega
    subst this
    have hf : o.findIdx? (fun x => !x) = none := List.findIdx?_eq_none_iff.2 fun x hx => by obtain ⟨i, hi, rfl⟩ := List.mem_iff_getElem.1 hx; simp [k2 i hi hi]
    simp only [takeE, takeS, hf]
    exact ⟨by trivial, Turn.same h⟩
theorem rslList_ok (h : RsO b w F o) : Calls Tryd.prog 14 #[.pointer (some ⟨b, 0, none⟩)] w fun e w' => ∃ p c, e = .returned (.slice p (outL o o.length).length c) ∧ Loc w w' 3 p c (outL o o.length) := by
  have hl : o.length ≤ 1024 := by obtain ⟨_, _, h3⟩ := h; exact h3.2
  refine u14 ?_
  rw [t14]
  refine ⟨WP_loop okProg (M := M14) (σ := Nat × Option Addr × Nat) (fun s => e14_1 (some ⟨b, 0, none⟩) s.2.1 (outL o s.1).length s.2.2 ((s.1 : Int) + 1))
    (fun s w' => s.1 ≤ o.length ∧ Loc w w' 3 s.2.1 s.2.2 (outL o s.1)) (fun s _ => o.length - s.1) (0, none, 0) ⟨rfl, rfl, rfl, trivial⟩ ⟨by omega, Loc.nil (Upd.refl _ _) _⟩ ?_⟩
  rintro ⟨j, p1, c1⟩ w2 ⟨k1, hL⟩
  simp only at k1 hL ⊢
  rw [t14_1]
  have h2 : RsO b w2 F o := (Frame.rso b).upd h hL.U fun _ _ h => h
  obtain ⟨p, c, hc, hat, hwr⟩ := h2.at
  have hs1 := outL_succ o j
  have hle := outL_le o j
  refine ⟨_, rfl, _, _, _, hc, fun g => ?_, fun g => ?_⟩
  · have hj : j < o.length := by have := of_decide_eq_true g; omega
    obtain ⟨a, ha, hv⟩ := hat j hj
    have hgd : o.getD j false = o[j] := by simp [hj]
    rw [hgd] at hs1
    rw [w64 (x := (j : Int) + 1 + 1) (by omega)]
    refine ⟨_, rfl, _, _, _, hc, ⟨by omega, by omega⟩, a, ha, _, hv, fun g2 => ⟨fun w4 hN => ?_⟩, fun g2 => ?_⟩
    · rw [if_pos g2] at hs1
      obtain ⟨p', c', w5, hr, hL'⟩ := hL.push elI (by omega) hN 22
      exact ⟨p', _, c', w5, hr, (j + 1, p', c'), ⟨rfl, by rw [hs1]; rfl, rfl, trivial⟩, ⟨by simp only; omega, by rw [hs1]; exact hL'⟩, by simp only; omega⟩
    · rw [if_neg (by rw [g2]; decide)] at hs1
      exact ⟨(j + 1, p1, c1), ⟨rfl, by rw [hs1]; rfl, rfl, trivial⟩, ⟨by simp only; omega, by rw [hs1]; exact hL⟩, by simp only; omega⟩
  · have : j = o.length := by have := of_decide_eq_false g; omega
    subst this
    exact ⟨p1, c1, rfl, hL⟩
end
end Go.Dav
