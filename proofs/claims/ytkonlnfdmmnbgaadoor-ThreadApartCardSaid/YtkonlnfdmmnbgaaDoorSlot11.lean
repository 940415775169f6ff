/- What the functions of numbers that are given out come to. -/
import Derived.Test.YtkonlnfdmmnbgaaDoorCnt11
import Derived.Test.YtkonlnfdmmnbgaaDoorLv
set_option linter.unusedSimpArgs false
set_option linter.unusedVariables false
namespace Go.Dav
open Go.Proofs
theorem elU : ElemT Tryd.prog 76 32 1 8 [.int .u64 0] := ⟨by kernel_rfl, by kernel_rfl, rfl, by omega⟩

/-- The words stand for what is given out: the number n is the bit n - 1. -/
structure Wds (ws : List BV) (o : List Bool) : Prop where
  len : ws.length = (o.length + 63) / 64
  bits : ∀ (i : Nat) (hi : i < ws.length) (k : Nat), k < 64 → ws[i].getLsbD k = o.getD (64 * i + k) false

def u64V (m : BV) : Value := .int .u64 (mi m)
def slE (x : List BV × List Bool) (p : Option Addr) (c : Nat) : List Value := [.slice p x.1.length c, .int .i64 (x.2.length : Int), .int .i64 ((x.2.count true : Nat) : Int)]
abbrev SlH (b : Nat) : Ob ((List BV × List Bool) × Option Addr × Nat) := Hd b 78 32 1 slE (fun x => x.1.length) (fun x => x.1.map u64V)
/-- A table: which of its numbers are given out. -/
def SlO (b : Nat) : Ob (List Bool) := fun w F o => ∃ ws y, SlH b w F ((ws, o), y) ∧ Wds ws o ∧ 1 ≤ o.length ∧ o.length ≤ 1024
instance Frame.slo (b : Nat) : Frame (SlO b) where
  upd := fun ⟨ws, y, h, r⟩ k hG => ⟨ws, y, (Frame.hd ..).upd h k hG, r⟩
  lt := fun ⟨_, _, h, _⟩ => (Frame.hd ..).lt h

def hasE (o : List Bool) (n : Int) : Bool := if 1 ≤ n then o.getD (n.toNat - 1) false else false
def takeE (o : List Bool) : Int × Int := match o.findIdx? (fun x => !x) with | some i => ((i : Int) + 1, 0) | none => (0, 5)
def takeS (o : List Bool) : List Bool := match o.findIdx? (fun x => !x) with | some i => o.set i true | none => o
def giveE (o : List Bool) (n : Int) : Int := if hasE o n then 0 else 4
def giveS (o : List Bool) (n : Int) : List Bool := if hasE o n then o.set (n.toNat - 1) false else o
def outL (o : List Bool) (k : Nat) : List Int := ((List.range k).filter (fun i => o.getD i false)).map (fun (i : Nat) => (i : Int) + 1)

theorem take_len (o : List Bool) : (takeS o).length = o.length := by unfold takeS; split <;> simp
theorem give_len (o : List Bool) (n : Int) : (giveS o n).length = o.length := by unfold giveS; split <;> simp
theorem outL_zero (o : List Bool) : outL o 0 = [] := rfl
theorem outL_succ (o : List Bool) (k : Nat) : outL o (k + 1) = if o.getD k false then outL o k ++ [(k : Int) + 1] else outL o k := by
  unfold outL
  rw [List.range_succ, List.filter_append, List.map_append]
  by_cases h : o.getD k false = true
  · rw [if_pos h, List.filter_cons_of_pos (p := fun i => o.getD i false) h]; rfl
  · rw [if_neg h, List.filter_cons_of_neg (p := fun i => o.getD i false) h]; simp
theorem outL_le (o : List Bool) (k : Nat) : (outL o k).length ≤ k := by unfold outL; rw [List.length_map]; exact Nat.le_trans (List.length_filter_le ..) (by simp)
theorem outL_len (o : List Bool) : (outL o o.length).length = o.count true := by
  unfold outL
  rw [List.length_map]
  induction o with
  | nil => rfl
  | cons x l ih =>
    rw [List.length_cons, List.range_succ_eq_map, List.filter_cons, List.filter_map, List.count_cons, ← ih]
    cases x <;> simp <;> rfl
theorem mem_outL {o : List Bool} {k : Nat} {n : Int} : n ∈ outL o k ↔ 1 ≤ n ∧ n ≤ k ∧ hasE o n = true := by
  unfold outL hasE
  rw [List.mem_map]
  constructor
  · rintro ⟨i, hi, rfl⟩
    rw [List.mem_filter, List.mem_range] at hi
    refine ⟨by omega, by omega, ?_⟩
    rw [if_pos (by omega), show ((i : Int) + 1).toNat - 1 = i by omega]
    exact hi.2
  · rintro ⟨h1, h2, h3⟩
    rw [if_pos h1] at h3
    exact ⟨n.toNat - 1, List.mem_filter.2 ⟨List.mem_range.2 (by omega), h3⟩, by omega⟩
theorem hasE_in {o : List Bool} {n : Int} (h : hasE o n = true) : 1 ≤ n ∧ n ≤ (o.length : Int) := by
  unfold hasE at h
  split at h
  · refine ⟨by assumption, ?_⟩
    by_cases hl : n.toNat - 1 < o.length
    · omega
    · rw [List.getD_eq_getElem?_getD, List.getElem?_eq_none (by omega)] at h; simp at h
  · cases h
theorem hasE_of {o : List Bool} {k : Nat} : hasE o ((k : Int) + 1) = o.getD k false := by
  unfold hasE
  rw [if_pos (by omega), show ((k : Int) + 1).toNat - 1 = k by omega]
theorem count_set {o : List Bool} {k : Nat} (hk : k < o.length) (v : Bool) : (o.set k v).count true + (if o[k] then 1 else 0) = o.count true + (if v then 1 else 0) := by
  induction o generalizing k with
  | nil => simp at hk
  | cons x l ih =>
    cases k with
    | zero => cases x <;> cases v <;> simp
    | succ k =>
      have := ih (k := k) (by simpa using hk)
      simp only [List.set_cons_succ, List.count_cons, List.getElem_cons_succ]
      omega
theorem count_len (o : List Bool) : o.count true ≤ o.length := List.count_le_length
/-- All are given out. -/
theorem count_full {o : List Bool} : o.count true = o.length ↔ o.findIdx? (fun x => !x) = none := by
  rw [List.findIdx?_eq_none_iff]
  constructor
  · intro h x hx
    rw [List.count_eq_length] at h
    simp [← h x hx]
  · intro h
    rw [List.count_eq_length]
    intro x hx
    have := h x hx
    simpa using this.symm

theorem Wds.set {ws : List BV} {o : List Bool} (h : Wds ws o) {i k : Nat} (hi : i < ws.length) (hk : k < 64) (ho : 64 * i + k < o.length) {v : Bool} {x : BV} (hx : ∀ j, j < 64 → x.getLsbD j = if j = k then v else ws[i].getLsbD j) : Wds (ws.set i x) (o.set (64 * i + k) v) := by
  refine ⟨by simpa using h.len, fun i' hi' j hj => ?_⟩
  rw [List.length_set] at hi'
  rw [List.getElem_set, List.getD_eq_getElem?_getD, List.getElem?_set]
  by_cases h1 : i = i'
  · subst h1
    rw [if_pos rfl, hx j hj]
    by_cases h2 : j = k
    · subst h2; simp [ho]
    · rw [if_neg h2, if_neg (by omega), h.bits i hi j hj, List.getD_eq_getElem?_getD]
  · rw [if_neg h1, if_neg (by omega), h.bits i' hi' j hj, List.getD_eq_getElem?_getD]
theorem hs_bit {m : BV} {k : Nat} (hk : k < 64) : hs m (k : Int) = m.getLsbD k := by
  unfold hs
  rw [decide_eq_true (show 0 ≤ (k : Int) ∧ (k : Int) < 64 by omega)]
  simp
theorem bit_of {m : BV} {k : Nat} (hk : k < 64) : (bitsOp .and .u64 (mi m) (mi (bt k)) == 0) = !m.getLsbD k := by
  rw [bits_and, mi_beq0, ← hs_bit hk, ← and_bt]; simp
theorem wi_bit {m : BV} {k j : Nat} (hk : k < 64) (hj : j < 64) : (wi m k).getLsbD j = if j = k then true else m.getLsbD j := by
  rw [← hs_bit hj, hs_wi, hs_bit hj]
  by_cases h : j = k
  · subst h; simp; omega
  · simp [h]; omega
theorem ls_bit {m : BV} {k j : Nat} (hj : j < 64) : (ls m k).getLsbD j = if j = k then false else m.getLsbD j := by
  rw [← hs_bit hj, hs_ls, hs_bit hj]
  by_cases h : j = k
  · subst h; simp
  · simp [h]; omega

section
variable {w : World} {F : Fp} {b : Nat} {o : List Bool}

theorem slNew_ok (n : Int) (w : World) : Calls Tryd.prog 22 #[.int .i64 n] w fun e w' =>
    (¬ (1 ≤ n ∧ n ≤ 1024) ∧ e = .returned (.tuple #[.pointer none, .int .i64 2]) ∧ w' = w) ∨
    ((1 ≤ n ∧ n ≤ 1024) ∧ ∃ b F, e = .returned (.tuple #[.pointer (some ⟨b, 0, none⟩), .int .i64 0]) ∧ SlO b w' F (List.replicate n.toNat false) ∧ Upd no w w' ∧ ∀ i, F i → w.heap.size ≤ i) := by
  refine u22 ?_
  rw [t22]
  refine ⟨fun h1 => ⟨fun h2 => .inl ⟨?_, rfl, rfl⟩, fun h2 => ⟨by decide, ?_⟩⟩, fun h1 => .inl ⟨?_, rfl, rfl⟩⟩
  · simp at h2; omega
  · have h1 : ¬ n < 1 := by simpa using h1
    have h2 : ¬ 1024 < n := by simpa using h2
    obtain ⟨m, rfl⟩ : ∃ m : Nat, n = m := ⟨n.toNat, by omega⟩
    have e0 : IntKind.wrap .i64 (Int.tdiv (IntKind.wrap .i64 (IntKind.wrap .i64 ((m : Int) + 64) - 1)) 64) = (((m + 63) / 64 : Nat) : Int) := by
      rw [w64 (x := (m : Int) + 64) (by omega), w64 (x := (m : Int) + 64 - 1) (by omega), Int.tdiv_eq_ediv_of_nonneg (by omega), w64 (by omega)]; omega
    rw [e0]
    obtain ⟨w1, hr, hU, hL⟩ := run_mkV (f := u64V) (x0 := 0) elU w (n := (m + 63) / 64) (by omega) (by omega) .i64 .i64
    refine ⟨_, _, _, w1, hr, ⟨fun w2 hN => .inr ⟨by omega, w1.heap.size, fun i => i = w1.heap.size ∨ fpS (some ⟨w.heap.size, 0, none⟩) i, rfl, ⟨List.replicate ((m + 63) / 64) 0, (some ⟨w.heap.size, 0, none⟩, (m + 63) / 64), ⟨?_, ?_, ?_, fun _ => Iff.rfl⟩, ⟨by simp, fun i hi k hk => ?_⟩, by simp; omega, by simp; omega⟩, hU.and (hN.upd no), ?_⟩⟩⟩
    · show Blk w2 w1.heap.size (slE (List.replicate ((m + 63) / 64) 0, List.replicate (Int.toNat (m : Int)) false) _ ((m + 63) / 64)) _
      unfold slE
      simp only [List.length_replicate, Int.toNat_natCast, List.count_replicate]
      exact hN.blk'
    · have hS := hL.2.upd (hN.upd no) fun _ _ h => h
      simp only [List.length_replicate] at hS ⊢
      exact hS
    · rintro ⟨a, ha, hb⟩
      cases ha
      have := hU.size
      have := hL.2.lt _ ⟨_, rfl, rfl⟩
      simp only at hb this
      omega
    · simp [List.getD_eq_getElem?_getD, List.getElem?_replicate]
      split <;> rfl
    · rintro i (rfl | ⟨a, ha, rfl⟩)
      · exact hU.size
      · cases ha; exact Nat.le_refl _
  · simp at h1; omega

theorem slCap_ok (h : SlO b w F o) : Calls Tryd.prog 35 #[.pointer (some ⟨b, 0, none⟩)] w fun e w' => e = .returned (.int .i64 (o.length : Int)) ∧ w' = w := by
  obtain ⟨ws, y, h1, h2, h3⟩ := h
  refine u35 ?_
  rw [t35]
  exact ⟨fun h => by simp at h, fun _ => ⟨_, rfl, _, h1.blk.cell rfl, rfl, rfl⟩⟩
theorem slCapNil_ok (w : World) : Calls Tryd.prog 35 #[.pointer none] w fun e w' => e = .returned (.int .i64 0) ∧ w' = w := by
  refine u35 ?_
  rw [t35]
  exact ⟨fun _ => ⟨rfl, rfl⟩, fun h => by simp at h⟩

theorem slot_split {o : List Bool} {n : Int} (h : 1 ≤ n ∧ n ≤ (o.length : Int)) : ∃ i k : Nat, k < 64 ∧ 64 * i + k < o.length ∧ n = ((64 * i + k : Nat) : Int) + 1 :=
  ⟨(n.toNat - 1) / 64, (n.toNat - 1) % 64, by omega, by omega, by omega⟩
theorem slBit_in {ws : List BV} {y : Option Addr × Nat} (h : SlH b w F ((ws, o), y)) (hw : Wds ws o) (hl : 1 ≤ o.length ∧ o.length ≤ 1024) {i k : Nat} (hk : k < 64) (ho : 64 * i + k < o.length) :
    Calls Tryd.prog 40 #[.pointer (some ⟨b, 0, none⟩), .int .i64 (((64 * i + k : Nat) : Int) + 1)] w fun e w' => (∃ a, y.1 = some a ∧ e = .returned (.tuple #[.pointer (some (a.add (i * 1))), .int .u64 (mi (bt k))])) ∧ Upd no w w' := by
  refine u40 ?_
  rw [t40]
  refine ⟨fun _ => ⟨fun _ => ⟨_, rfl, _, h.blk.cell rfl, fun g => absurd (of_decide_eq_true g) (by simp only; omega), fun _ => ?_⟩, fun g => absurd (of_decide_eq_true g) (by omega)⟩, fun g => by simp at g⟩
  intro w1 q1 q2 q3 q4
  have hU := Upd.same no q1 q2 q3 q4
  have h1 := (Frame.hd ..).upd h hU fun _ _ h => h
  have e0 : IntKind.wrap .i64 (((64 * i + k : Nat) : Int) + 1 - 1) = ((64 * i + k : Nat) : Int) := by rw [w64 (by omega)]; omega
  have e1 : Int.tdiv ((64 * i + k : Nat) : Int) 64 = (i : Int) := by rw [Int.tdiv_eq_ediv_of_nonneg (by omega)]; omega
  have e2 : Int.tmod ((64 * i + k : Nat) : Int) 64 = (k : Int) := by rw [Int.tmod_eq_emod_of_nonneg (by omega)]; omega
  have e3 : IntKind.wrap .i64 (i : Int) = (i : Int) := w64 (by omega)
  have hi : i < ws.length := by have := hw.len; omega
  obtain ⟨a, ha, _⟩ := h1.sl.cells.at1 (l := ws) hi
  rw [e0, e1, e2, e3, shl_one (by omega)]
  first
    | exact ⟨_, rfl, _, _, _, h1.blk.cell rfl, by decide, ⟨by omega, by simp only; omega⟩, a, ha, by decide, by omega, ⟨a, ha, rfl⟩, hU⟩
    | exact ⟨_, rfl, _, _, _, h1.blk.cell rfl, by decide, by decide, by omega, ⟨by omega, by simp only; omega⟩, a, ha, ⟨a, ha, rfl⟩, hU⟩
    | exact ⟨_, rfl, _, _, _, h1.blk.cell rfl, by decide, ⟨by omega, by simp only; omega⟩, a, ha, by decide, by omega, rfl, hU⟩
theorem slBit_out (h : SlO b w F o) {n : Int} (hn : ¬ (1 ≤ n ∧ n ≤ (o.length : Int))) : Calls Tryd.prog 40 #[.pointer (some ⟨b, 0, none⟩), .int .i64 n] w fun e w' => e = .returned (.tuple #[.pointer none, .int .u64 0]) ∧ w' = w := by
  obtain ⟨ws, y, h1, h2, h3⟩ := h
  refine u40 ?_
  rw [t40]
  refine ⟨fun _ => ⟨fun g => ⟨_, rfl, _, h1.blk.cell rfl, fun _ => ⟨rfl, rfl⟩, fun g2 => ?_⟩, fun _ => ⟨rfl, rfl⟩⟩, fun g => by simp at g⟩
  have := of_decide_eq_false g
  have := of_decide_eq_false g2
  simp only at this
  omega
theorem slBitNil_ok (n : Int) (w : World) : Calls Tryd.prog 40 #[.pointer none, .int .i64 n] w fun e w' => e = .returned (.tuple #[.pointer none, .int .u64 0]) ∧ w' = w := by
  refine u40 ?_
  rw [t40]
  exact ⟨fun g => by simp at g, fun _ => ⟨rfl, rfl⟩⟩

theorem slHas_ok (h : SlO b w F o) (n : Int) : Calls Tryd.prog 36 #[.pointer (some ⟨b, 0, none⟩), .int .i64 n] w fun e w' => e = .returned (.bool (hasE o n)) ∧ Upd no w w' := by
  refine u36 ?_
  rw [t36]
  by_cases hn : 1 ≤ n ∧ n ≤ (o.length : Int)
  · obtain ⟨ws, y, h1, h2, h3⟩ := h
    obtain ⟨i, k, hk, ho, rfl⟩ := slot_split hn
    refine ⟨(slBit_in h1 h2 h3 hk ho).mono ?_⟩
    rintro e w1 ⟨⟨a, ha, rfl⟩, hU⟩
    have h1' := (Frame.hd ..).upd h1 hU fun _ _ h => h
    have hi : i < ws.length := by have := h2.len; omega
    obtain ⟨a', ha', hc⟩ := h1'.sl.cells.at1 (l := ws) hi
    obtain rfl := Option.some.inj (ha.symm.trans ha')
    have hb := bit_of (m := ws[i]) hk
    have hx := h2.bits i hi k hk
    refine ⟨_, _, rfl, fun _ => ⟨_, rfl, _, hc, ?_, hU⟩, fun g => by simp at g⟩
    rw [bne, hb, hx, Bool.not_not, hasE_of]
  · refine ⟨(slBit_out h hn).mono ?_⟩
    rintro e w1 ⟨rfl, rfl⟩
    have : hasE o n = false := by
      cases hh : hasE o n with
      | false => rfl
      | true => exact absurd (hasE_in hh) hn
    rw [this]
    exact ⟨_, _, rfl, fun g => by simp at g, fun _ => ⟨rfl, Upd.refl _ _⟩⟩
theorem slHasNil_ok (n : Int) (w : World) : Calls Tryd.prog 36 #[.pointer none, .int .i64 n] w fun e w' => e = .returned (.bool false) ∧ w' = w := by
  refine u36 ?_
  rw [t36]
  refine ⟨(slBitNil_ok n w).mono ?_⟩
  rintro e w1 ⟨rfl, rfl⟩
  exact ⟨_, _, rfl, fun g => by simp at g, fun _ => ⟨rfl, rfl⟩⟩

/-- A word is written, and the count. -/
theorem slWr {ws : List BV} {y : Option Addr × Nat} (h : SlH b w F ((ws, o), y)) (hw : Wds ws o) (hl : 1 ≤ o.length ∧ o.length ≤ 1024) {w1 : World} (hU : Upd no w w1) {i k : Nat} (hk : k < 64) (ho : 64 * i + k < o.length) (hi : i < ws.length) {v : Bool} {x : BV}
    (hx : ∀ j, j < 64 → x.getLsbD j = if j = k then v else ws[i].getLsbD j) {K : World → Prop}
    (hK : ∀ w2, w2.cell? ((⟨b, 0, none⟩ : Addr).add 2) = some (.int .i64 ((o.count true : Nat) : Int)) → Wr w2 ((⟨b, 0, none⟩ : Addr).add 2) [.int .i64 (((o.set (64 * i + k) v).count true : Nat) : Int)] (fun w3 => Turn (SlO b) w w3 F (o.set (64 * i + k) v)) → K w2) :
    ∃ a, y.1 = some a ∧ Wr w1 (a.add (i * 1)) [.int .u64 (mi x)] K := by
  have h1 := (Frame.hd ..).upd h hU fun _ _ h => h
  have hS := h1.sl
  obtain ⟨a, ha, _⟩ := hS.cells.at1 (l := ws) hi
  simp only at ha hS
  rw [ha] at hS
  refine ⟨a, ha, hS.wr (o := i * 1) (by simp; omega) fun w2 hS2 hU2 => ?_⟩
  have hB := h1.blkU (w1 := w2) (by rw [ha]; exact hU2)
  rw [Nat.mul_one] at hS2
  have e : [Value.int .u64 (mi x)] = [u64V x] := rfl
  rw [e, setL_set hi] at hS2
  refine hK w2 (hB.cell rfl) (hB.wr (by simp [slE]) fun w3 hW => ?_)
  have hT : Turn (SlH b) w1 w3 F ((ws.set i x, o.set (64 * i + k) v), y) := by
    refine h1.put (p' := y.1) (c' := y.2) (w1 := w2) ?_ (by rw [ha]; exact hU2) (fun i hi => .inl hi) ?_
    · simp only [List.length_set]
      rw [ha]; exact hS2
    · have hW' := hW
      simp only [slE, List.length_set]
      exact hW'
  obtain ⟨F', t1, t2, t3⟩ := hT
  exact ⟨F', ⟨_, y, t1, hw.set hi hk ho hx, by simpa using hl⟩, (hU.mono (fun _ _ h => h.elim)).trans t2 (fun _ _ h => h), fun i hi => (t3 i hi).imp id (fun h => Nat.le_trans hU.size h)⟩

theorem slGive_ok (h : SlO b w F o) (n : Int) : Calls Tryd.prog 33 #[.pointer (some ⟨b, 0, none⟩), .int .i64 n] w fun e w' => e = .returned (.int .i64 (giveE o n)) ∧ Turn (SlO b) w w' F (giveS o n) := by
  refine u33 ?_
  rw [t33]
  by_cases hn : 1 ≤ n ∧ n ≤ (o.length : Int)
  · obtain ⟨ws, y, h1, h2, h3⟩ := id h
    obtain ⟨i, k, hk, ho, rfl⟩ := slot_split hn
    refine ⟨(slBit_in h1 h2 h3 hk ho).mono ?_⟩
    rintro e w1 ⟨⟨a, ha, rfl⟩, hU⟩
    have h1' := (Frame.hd ..).upd h1 hU fun _ _ h => h
    have hi : i < ws.length := by have := h2.len; omega
    obtain ⟨a', ha', hc⟩ := h1'.sl.cells.at1 (l := ws) hi
    obtain rfl := Option.some.inj (ha.symm.trans ha')
    have hb := bit_of (m := ws[i]) hk
    have hx := h2.bits i hi k hk
    rw [hx] at hb
    have hg : hasE o (((64 * i + k : Nat) : Int) + 1) = o.getD (64 * i + k) false := hasE_of
    have hcl := count_len o
    have hcs := count_set ho false
    have hgd : o.getD (64 * i + k) false = o[64 * i + k] := by simp [ho]
    refine ⟨_, _, rfl, fun g => by simp at g, fun _ => ⟨fun _ => ⟨_, rfl, _, hc, fun g => ?_, fun g => ?_⟩, fun g => by simp at g⟩⟩
    · have g : o.getD (64 * i + k) false = false := by rw [hb] at g; simpa using g
      rw [giveE, giveS, hg, g]
      exact ⟨rfl, Turn.quiet h hU⟩
    · have g : o.getD (64 * i + k) false = true := by rw [hb] at g; simpa using g
      rw [hgd] at g
      rw [g] at hcs
      simp only [if_true, Bool.false_eq_true, if_false] at hcs
      refine ⟨_, rfl, _, hc, ?_⟩
      rw [bits_not]
      obtain ⟨a2, ha2, hW⟩ := slWr h1 h2 h3 hU hk ho hi (v := false) (x := ls ws[i] k) (fun j hj => ls_bit hj) (K := fun w2 => ∃ a, some (⟨b, 0, none⟩ : Addr) = some a ∧ ∃ n_1, w2.cell? (Addr.add a 2) = some (Value.int .i64 n_1) ∧ ∃ a, some (⟨b, 0, none⟩ : Addr) = some a ∧ Wr w2 (Addr.add a 2) [Value.int .i64 (IntKind.wrap .i64 (n_1 - 1))] fun w' => Ending.returned (Value.int .i64 0) = Ending.returned (.int .i64 (giveE o (((64 * i + k : Nat) : Int) + 1))) ∧ Turn (SlO b) w w' F (giveS o (((64 * i + k : Nat) : Int) + 1)))
        (fun w2 c1 c2 => ⟨_, rfl, _, c1, _, rfl, by
          rw [w64 (by omega), show ((o.count true : Nat) : Int) - 1 = (((o.set (64 * i + k) false).count true : Nat) : Int) by omega]
          obtain ⟨⟨cc, T, r1, r2, r3, r4⟩⟩ := c2
          refine ⟨⟨cc, T, r1, r2, r3, fun w' hw' => ⟨?_, ?_⟩⟩⟩
          · rw [giveE, hg, hgd, g]; rfl
          · rw [giveS, hg, hgd, g, if_pos rfl, show (((64 * i + k : Nat) : Int) + 1).toNat - 1 = 64 * i + k by omega]; exact r4 w' hw'⟩)
      obtain rfl := Option.some.inj (ha.symm.trans ha2)
      exact ⟨_, rfl, hW⟩
  · have hf : hasE o n = false := by
      cases hh : hasE o n with
      | false => rfl
      | true => exact absurd (hasE_in hh) hn
    refine ⟨(slBit_out h hn).mono ?_⟩
    rintro e w1 ⟨rfl, rfl⟩
    rw [giveE, giveS, hf]
    exact ⟨_, _, rfl, fun g => by simp at g, fun _ => ⟨fun g => by simp at g, fun _ => ⟨rfl, Turn.same h⟩⟩⟩
theorem slGiveNil_ok (n : Int) (w : World) : Calls Tryd.prog 33 #[.pointer none, .int .i64 n] w fun e w' => e = .returned (.int .i64 1) ∧ w' = w := by
  refine u33 ?_
  rw [t33]
  refine ⟨(slBitNil_ok n w).mono ?_⟩
  rintro e w1 ⟨rfl, rfl⟩
  exact ⟨_, _, rfl, fun _ => ⟨rfl, rfl⟩, fun g => by simp at g⟩

theorem slTakeNil_ok (w : World) : Calls Tryd.prog 32 #[.pointer none] w fun e w' => e = .returned (.tuple #[.int .i64 0, .int .i64 1]) ∧ w' = w := by
  refine u32 ?_
  rw [t32]
  exact ⟨fun _ => ⟨rfl, rfl⟩, fun g => by simp at g⟩
theorem slTake_ok (hT : Tab w) (h : SlO b w F o) : Calls Tryd.prog 32 #[.pointer (some ⟨b, 0, none⟩)] w fun e w' => e = .returned (.tuple #[.int .i64 (takeE o).1, .int .i64 (takeE o).2]) ∧ Turn (SlO b) w w' F (takeS o) := by
  obtain ⟨ws, y, h1, h2, h3⟩ := id h
  have hcl := count_len o
  refine u32 ?_
  rw [t32]
  refine ⟨fun g => by simp at g, fun _ w1 q1 q2 q3 q4 => ?_⟩
  have hU := Upd.same no q1 q2 q3 q4
  have h1' := (Frame.hd ..).upd h1 hU fun _ _ h => h
  refine ⟨_, rfl, _, h1'.blk.cell rfl, _, rfl, _, h1'.blk.cell rfl, fun g => ?_, fun g => ⟨_, rfl, _, _, _, h1'.blk.cell rfl, ?_⟩⟩
  · have g : o.count true = o.length := by have := eq_of_beq g; simp only at this; omega
    have hn := count_full.1 g
    simp only [takeE, takeS, hn]
    exact ⟨by trivial, Turn.quiet h hU⟩
  · have g : o.count true ≠ o.length := by have := ne_of_beq_false g; simp only at this; omega
    have hlen := h2.len
    refine ⟨WP_loop okProg (M := M32) (σ := Nat) (fun j => e32_1 (some ⟨b, 0, none⟩) y.1 ws.length y.2 (ws.length : Int) (j : Int)) (fun j w' => j ≤ ws.length ∧ (∀ i, i < 64 * j → i < o.length → o.getD i false = true) ∧ Upd no w w') (fun j _ => ws.length - j) 0 ⟨rfl, rfl, rfl, rfl, trivial⟩ ⟨by omega, fun i hi => by omega, hU⟩ ?_⟩
    clear h1' hU q1 q2 q3 q4
    rintro j w2 ⟨k1, k2, hU⟩
    rw [t32_1]
    have h1' := (Frame.hd ..).upd h1 hU fun _ _ h => h
    refine ⟨fun gj => ?_, fun gj => ?_⟩
    · have hj : j < ws.length := by simpa using gj
      obtain ⟨a, ha, hc⟩ := h1'.sl.cells.at1 (l := ws) hj
      refine ⟨⟨by omega, by omega⟩, a, ha, _, hc, ?_⟩
      show Call Tryd.prog _ [.int .u64 (bitsOp .xor .u64 (IntKind.max .u64) (mi ws[j]))] w2 _
      rw [show IntKind.max .u64 = 18446744073709551615 by decide +kernel, not_bits]
      refine ⟨(tz_ok _ (hT.no hU)).mono ?_⟩
      rintro e w3 ⟨rfl, rfl⟩
      refine ⟨_, rfl, fun g2 => ?_, fun g2 => ?_⟩
      · have hne := tz_lt.1 (of_decide_eq_true g2)
        obtain ⟨k, hk, hb1, hb2⟩ := low_ex hne
        have htz := tz_low hk hb1 hb2
        rw [htz]
        have nb : ∀ i : Nat, i < 64 → hs (~~~ ws[j]) (i : Int) = !(o.getD (64 * j + i) false) := fun i hi => by
          rw [hs_bit hi, BitVec.getLsbD_not, h2.bits j hj i hi]; simp [hi]
        have hko : o.getD (64 * j + k) false = false := by have := nb k hk; rw [hb1] at this; simpa using this.symm
        have hlow : ∀ i, i < 64 * j + k → i < o.length → o.getD i false = true := fun i hi hio => by
          by_cases hij : i < 64 * j
          · exact k2 i hij hio
          · have := nb (i - 64 * j) (by omega)
            rw [hb2 _ (by omega), show 64 * j + (i - 64 * j) = i by omega] at this
            simpa using this.symm
        have ho : 64 * j + k < o.length := Decidable.byContradiction fun hno => g (count_full.2 (List.findIdx?_eq_none_iff.2 fun x hx => by
          obtain ⟨i, hi, rfl⟩ := List.mem_iff_getElem.1 hx
          have := hlow i (by omega) hi
          simp [hi] at this
          simp [this]))
        have hf : o.findIdx? (fun x => !x) = some (64 * j + k) := List.findIdx?_eq_some_iff_getElem.2 ⟨ho, by simp [ho] at hko; simp [hko], fun i hi => by
          have := hlow i hi (by omega)
          simp [show i < o.length by omega] at this
          simp [this]⟩
        have hcs := count_set ho true
        have hgd : o[64 * j + k] = false := by simp [ho] at hko; exact hko
        rw [hgd] at hcs
        simp only [if_true, Bool.false_eq_true, if_false] at hcs
        have hcl2 := count_len (o.set (64 * j + k) true)
        rw [List.length_set] at hcl2
        intro w4 q1 q2 q3 q4
        have hU4 := hU.and (Upd.same no q1 q2 q3 q4)
        have h4 := (Frame.hd ..).upd h1 hU4 fun _ _ h => h
        obtain ⟨a4, ha4, hc4⟩ := h4.sl.cells.at1 (l := ws) hj
        refine ⟨_, rfl, _, _, _, h4.blk.cell rfl, ⟨by omega, by simp only; omega⟩, a4, ha4, _, hc4, by omega, ⟨by omega, by simp only; omega⟩, a4, ha4, ?_⟩
        show Wr w4 _ [.int .u64 (bitsOp .or .u64 (mi ws[j]) (shlOp .u64 1 (k : Int)))] _
        rw [shl_one (by omega), bits_or]
        obtain ⟨a2, ha2, hW⟩ := slWr h1 h2 h3 hU4 hk ho hj (v := true) (x := wi ws[j] k) (fun i hi => wi_bit hk hi) (K := fun w5 => ∃ a, some (⟨b, 0, none⟩ : Addr) = some a ∧ ∃ n_1, w5.cell? (Addr.add a 2) = some (Value.int .i64 n_1) ∧ ∃ a, some (⟨b, 0, none⟩ : Addr) = some a ∧ Wr w5 (Addr.add a 2) [Value.int .i64 (IntKind.wrap .i64 (n_1 + 1))] fun w' => Ending.returned (Value.tuple #[.int .i64 (IntKind.wrap .i64 (IntKind.wrap .i64 (IntKind.wrap .i64 ((j : Int) * 64) + (k : Int)) + 1)), .int .i64 0]) = Ending.returned (.tuple #[.int .i64 (takeE o).1, .int .i64 (takeE o).2]) ∧ Turn (SlO b) w w' F (takeS o))
          (fun w5 c1 c2 => ⟨_, rfl, _, c1, _, rfl, by
            rw [w64 (x := ((o.count true : Nat) : Int) + 1) (by omega), show ((o.count true : Nat) : Int) + 1 = (((o.set (64 * j + k) true).count true : Nat) : Int) by omega]
            obtain ⟨⟨cc, T, r1, r2, r3, r4⟩⟩ := c2
            refine ⟨⟨cc, T, r1, r2, r3, fun w' hw' => ⟨?_, ?_⟩⟩⟩
            · simp only [takeE, hf]
              rw [w64 (x := (j : Int) * 64) (by omega), w64 (x := (j : Int) * 64 + (k : Int)) (by omega), w64 (by omega)]
              have : (j : Int) * 64 + (k : Int) + 1 = ((64 * j + k : Nat) : Int) + 1 := by omega
              rw [this]
            · simp only [takeS, hf]; exact r4 w' hw'⟩)
        obtain rfl := Option.some.inj (ha4.symm.trans ha2)
        exact hW
      · have g2 : ¬ tz (~~~ ws[j]) < 64 := of_decide_eq_false g2
        have hz : ~~~ ws[j] = 0 := Decidable.byContradiction fun hne => g2 (tz_lt.2 hne)
        refine ⟨j + 1, ⟨rfl, rfl, rfl, by rw [w64 (by omega)]; rfl, trivial⟩, ⟨by omega, fun i hi hio => ?_, hU⟩, by omega⟩
        by_cases hij : i < 64 * j
        · exact k2 i hij hio
        · have hb := h2.bits j hj (i - 64 * j) (by omega)
          rw [show 64 * j + (i - 64 * j) = i by omega] at hb
          rw [← hb]
          have := congrArg (fun m : BV => m.getLsbD (i - 64 * j)) hz
          simp only [BitVec.getLsbD_not] at this
          simp [show i - 64 * j < 64 by omega] at this
          exact this
    · have : j = ws.length := by simp at gj; omega
      subst this
      refine absurd (count_full.2 (List.findIdx?_eq_none_iff.2 fun x hx => ?_)) g
      obtain ⟨i, hi, rfl⟩ := List.mem_iff_getElem.1 hx
      have := k2 i (by omega) hi
      simp [hi] at this
      simp [this]

theorem slList_ok (h : SlO b w F o) : Calls Tryd.prog 29 #[.pointer (some ⟨b, 0, none⟩)] w fun e w' => ∃ p c, e = .returned (.slice p (outL o o.length).length c) ∧ Loc w w' 3 p c (outL o o.length) := by
  have hl : o.length ≤ 1024 := by obtain ⟨_, _, _, _, h3⟩ := h; exact h3.2
  refine u29 ?_
  rw [t29]
  refine ⟨(slCap_ok h).mono ?_⟩
  rintro e w1 ⟨rfl, rfl⟩
  refine ⟨_, rfl, ⟨WP_loop okProg (M := M29) (σ := Nat × Option Addr × Nat) (fun s => e29_1 (some ⟨b, 0, none⟩) s.2.1 (outL o s.1).length s.2.2 (o.length : Int) (s.1 : Int))
    (fun s w' => s.1 ≤ o.length ∧ Loc w1 w' 3 s.2.1 s.2.2 (outL o s.1)) (fun s _ => o.length - s.1) (0, none, 0) ⟨rfl, rfl, rfl, rfl, trivial⟩ ⟨by omega, Loc.nil (Upd.refl _ _) _⟩ ?_⟩⟩
  rintro ⟨j, p, c⟩ w2 ⟨k1, hL⟩
  simp only at k1 hL ⊢
  rw [t29_1]
  have hs1 := outL_succ o j
  have hle := outL_le o j
  refine ⟨fun g => ?_, fun g => ?_⟩
  · have hj : j < o.length := by simpa using g
    rw [w64 (x := (j : Int) + 1) (by omega)]
    have h2 : SlO b w2 F o := (Frame.slo b).upd h hL.U fun _ _ h => h
    refine ⟨(slHas_ok h2 _).mono ?_⟩
    rintro e w3 ⟨rfl, hU⟩
    have hL3 := hL.upd hU
    rw [hasE_of]
    refine ⟨_, rfl, fun g2 => ⟨fun w4 hN => ?_⟩, fun g2 => ?_⟩
    · rw [if_pos g2] at hs1
      obtain ⟨p', c', w5, hr, hL'⟩ := hL3.push elI (by omega) hN 36
      exact ⟨p', _, c', w5, hr, (j + 1, p', c'), ⟨rfl, by rw [hs1]; rfl, rfl, rfl, trivial⟩, ⟨by simp only; omega, by rw [hs1]; exact hL'⟩, by simp only; omega⟩
    · rw [if_neg (by rw [g2]; decide)] at hs1
      exact ⟨(j + 1, p, c), ⟨rfl, by rw [hs1]; rfl, rfl, rfl, trivial⟩, ⟨by simp only; omega, by rw [hs1]; exact hL3⟩, by simp only; omega⟩
  · have : j = o.length := by simp at g; omega
    subst this
    exact ⟨p, c, rfl, hL⟩
theorem slListNil_ok (w : World) : Calls Tryd.prog 29 #[.pointer none] w fun e w' => e = .returned (.slice none 0 0) ∧ w' = w := by
  refine u29 ?_
  rw [t29]
  refine ⟨(slCapNil_ok w).mono ?_⟩
  rintro e w1 ⟨rfl, rfl⟩
  refine ⟨_, rfl, ⟨WP_loop okProg (M := M29) (σ := Unit) (fun _ => e29_1 none none 0 0 0 0) (fun _ w' => w' = w1) (fun _ _ => 0) () ⟨rfl, rfl, rfl, rfl, trivial⟩ rfl ?_⟩⟩
  rintro _ w2 rfl
  rw [t29_1]
  exact ⟨fun g => by simp at g, fun _ => ⟨rfl, rfl⟩⟩
end
end Go.Dav
