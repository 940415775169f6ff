/- What the functions of the pool come to. -/
import Derived.Test.YtibpjbmcjeglpaaPrg08
import Derived.Test.YtibpjbmcjeglpaaV08a
import Derived.Test.YtibpjbmcjeglpaaV08b
import Derived.Test.YtibpjbmcjeglpaaV08x
import Derived.Test.YtibpjbmcjeglpaaMk
import Derived.Test.YtibpjbmcjeglpaaRec
import Derived.Test.YtibpjbmcjeglpaaRing
import Derived.Test.YtibpjbmcjeglpaaByt
set_option linter.unusedSimpArgs false
set_option linter.unusedVariables false
namespace Go.Dav
open Go.Proofs
def tz8 (x : Nat) : Nat := ((List.range 8).find? (fun k => x.testBit k)).getD 8
def oc8 (x : Nat) : Nat := ((List.range 8).filter (fun k => x.testBit k)).length
theorem tz8_le (x : Nat) : tz8 x ≤ 8 := by
  unfold tz8
  cases h : (List.range 8).find? (fun k => x.testBit k) with
  | none => simp
  | some k => have := List.mem_of_find?_eq_some h; simp at this; simp; omega
theorem oc8_le (x : Nat) : oc8 x ≤ 8 := Nat.le_trans (List.length_filter_le ..) (by simp)
theorem tz8_ok {x : Nat} (hx : x < 256) (w : World) : Calls Try.prog 54 #[.int .u8 x] w fun e w' => e = .returned (.int .i64 (tz8 x)) ∧ w' = w := by
  refine u54 ?_
  rw [t54]
  have hle := tz8_le x
  exact ⟨⟨by omega, by omega⟩, (tz8 x : Int), byte_at tz8 (by decide +kernel) hx, by rw [w64 (by omega)], rfl⟩
theorem oc8_ok {x : Nat} (hx : x < 256) (w : World) : Calls Try.prog 42 #[.int .u8 x] w fun e w' => e = .returned (.int .i64 (oc8 x)) ∧ w' = w := by
  refine u42 ?_
  rw [t42]
  have hle := oc8_le x
  exact ⟨⟨by omega, by omega⟩, (oc8 x : Int), byte_at oc8 (by decide +kernel) hx, by rw [w64 (by omega)], rfl⟩

/-! ### Pages as numbers -/

/-- The lowest object of a page that is free. -/
def z8 (x : Nat) : Nat := tz8 (255 - x)
def clr (x k : Nat) : Nat := x &&& (255 - 2 ^ k)
def ior (x k : Nat) : Nat := x ||| 2 ^ k
def bitsB (x : Nat) : List Bool := (List.range 8).map x.testBit
theorem ops8 : ∀ x : Nat, x < 256 → ∀ k : Nat, k < 8 → bitsOp .or .u8 (x : Int) (shlOp .u8 1 (k : Int)) = (ior x k : Int) ∧ bitsOp .andNot .u8 (x : Int) (shlOp .u8 1 (k : Int)) = (clr x k : Int) ∧
    (bitsOp .and .u8 (x : Int) (shlOp .u8 1 (k : Int)) != 0) = x.testBit k ∧ ior x k < 256 ∧ clr x k < 256 ∧ bitsB (ior x k) = (bitsB x).set k true ∧ bitsB (clr x k) = (bitsB x).set k false := by decide +kernel
theorem shl8 : ∀ k : Nat, k < 8 → (shlOp .u8 1 (k : Int) != 0) = true := by decide +kernel
theorem one8 : ∀ x : Nat, x < 256 → bitsOp .xor .u8 (IntKind.max .u8) (x : Int) = ((255 - x : Nat) : Int) ∧ (oc8 x = 0 ↔ x = 0) ∧ (oc8 x = 8 ↔ x = 255) ∧ (x ≠ 255 → z8 x < 8 ∧ x.testBit (z8 x) = false ∧ ∀ k : Nat, k < z8 x → x.testBit k = true) := by decide +kernel
theorem low8 : ∀ x : Nat, x < 256 → ∀ j : Nat, j < 8 → x.testBit j = false → (∀ k : Nat, k < j → x.testBit k = true) → z8 x = j := by decide +kernel
theorem all8 : ∀ x : Nat, x < 256 → (∀ k : Nat, k < 8 → x.testBit k = true) → x = 255 := by decide +kernel
def cnt (x j : Nat) : Nat := ((List.range j).filter (fun k => x.testBit k)).length
theorem cnt_succ (x j : Nat) : cnt x (j + 1) = if x.testBit j then cnt x j + 1 else cnt x j := by
  unfold cnt
  rw [List.range_succ, List.filter_append]
  by_cases h : x.testBit j = true <;> simp [h]
theorem cnt_le (x j : Nat) : cnt x j ≤ j := Nat.le_trans (List.length_filter_le ..) (by simp)

structure PgOk (pg : List Nat) : Prop where
  len : 1 ≤ pg.length ∧ pg.length ≤ 12
  lt : ∀ x ∈ pg, x < 256
theorem PgOk.at {pg : List Nat} (h : PgOk pg) {i : Nat} (hi : i < pg.length) : pg[i] < 256 := h.lt _ (List.getElem_mem hi)
theorem PgOk.set {pg : List Nat} (h : PgOk pg) (i : Nat) {x : Nat} (hx : x < 256) : PgOk (pg.set i x) :=
  ⟨by simpa using h.len, fun y hy => (List.mem_or_eq_of_mem_set hy).elim (h.lt y) (fun e => e ▸ hx)⟩

def pgI (x : Nat) : Value := .int .u8 (x : Int)
def plE (pg : List Nat) : List Value := pg.map pgI ++ (List.replicate (12 - pg.length) (pgI 0) ++ [.int .i64 (pg.length : Int)])
def PlO (b : Nat) : Ob (List Nat) := fun w F x => Rw b 68 plE w F x ∧ PgOk x
instance Frame.pl (b : Nat) : Frame (PlO b) where
  upd := fun ⟨h, r⟩ k hG => ⟨(Frame.rw ..).upd h k hG, r⟩
  lt := fun ⟨h, _⟩ => (Frame.rw ..).lt h

def p1 (x : Nat) : Bool := x != 0 && x != 255
def p2 (x : Nat) : Bool := x == 0
def fI (o : Option Nat) : Int := match o with | some i => (i : Int) | none => -1
def takeP (pg : List Nat) : Option Nat := match pg.findIdx? p1 with | some i => some i | none => pg.findIdx? p2
def takeE (pg : List Nat) : Int × Int := match takeP pg with | some i => (((8 * i + z8 (pg.getD i 0) + 1 : Nat) : Int), 0) | none => (0, 5)
def takeS (pg : List Nat) : List Nat := match takeP pg with | some i => pg.set i (ior (pg.getD i 0) (z8 (pg.getD i 0))) | none => pg
def inP (pg : List Nat) (id : Int) : Prop := 1 ≤ id ∧ id ≤ 8 * (pg.length : Int)
instance (pg : List Nat) (id : Int) : Decidable (inP pg id) := by unfold inP; infer_instance
def outE (pg : List Nat) (id : Int) : Bool := if inP pg id then (pg.getD ((id.toNat - 1) / 8) 0).testBit ((id.toNat - 1) % 8) else false
def giveE (pg : List Nat) (id : Int) : Int := if outE pg id then 0 else 4
def giveS (pg : List Nat) (id : Int) : List Nat := if outE pg id then pg.set ((id.toNat - 1) / 8) (clr (pg.getD ((id.toNat - 1) / 8) 0) ((id.toNat - 1) % 8)) else pg
def freeN (pg : List Nat) : Nat := 8 * pg.length - (pg.map oc8).sum
def empN (pg : List Nat) : Nat := pg.countP p2
def parN (pg : List Nat) : Nat := pg.countP p1
def wholeN (pg : List Nat) : Nat := pg.countP (fun x => x == 255)

theorem fi_some {p : Nat → Bool} {pg : List Nat} {j : Nat} (hj : j < pg.length) (h1 : ∀ i (hi : i < pg.length), i < j → p pg[i] = false) (h2 : p pg[j] = true) : pg.findIdx? p = some j :=
  List.findIdx?_eq_some_iff_getElem.2 ⟨hj, h2, fun i hi => by simp [h1 i (by omega) hi]⟩
theorem fi_none {p : Nat → Bool} {pg : List Nat} (h : ∀ i (hi : i < pg.length), p pg[i] = false) : pg.findIdx? p = none :=
  List.findIdx?_eq_none_iff.2 fun x hx => by obtain ⟨i, hi, rfl⟩ := List.mem_iff_getElem.1 hx; exact h i hi
theorem fi_at {p : Nat → Bool} {pg : List Nat} {j : Nat} (h : pg.findIdx? p = some j) : ∃ hj : j < pg.length, p pg[j] = true := by
  obtain ⟨hj, h2, _⟩ := List.findIdx?_eq_some_iff_getElem.1 h
  exact ⟨hj, h2⟩
theorem takeP_at {pg : List Nat} {j : Nat} (h : takeP pg = some j) : ∃ hj : j < pg.length, pg[j] ≠ 255 := by
  unfold takeP at h
  cases h1 : pg.findIdx? p1 with
  | some i =>
    rw [h1] at h
    simp only [Option.some.injEq] at h
    subst h
    obtain ⟨hj, h2⟩ := fi_at h1
    exact ⟨hj, by simp [p1] at h2; exact h2.2⟩
  | none =>
    rw [h1] at h
    obtain ⟨hj, h2⟩ := fi_at h
    exact ⟨hj, by simp [p2] at h2; omega⟩
theorem in_split {pg : List Nat} {id : Int} (h : inP pg id) : ∃ i k : Nat, i < pg.length ∧ k < 8 ∧ id = ((8 * i + k + 1 : Nat) : Int) := by
  unfold inP at h
  exact ⟨(id.toNat - 1) / 8, (id.toNat - 1) % 8, by omega, by omega, by omega⟩
section
variable {pg : List Nat} {i k : Nat} (hi : i < pg.length) (hk : k < 8)
include hi hk
theorem in_of : inP pg ((8 * i + k + 1 : Nat) : Int) := by unfold inP; omega
theorem out_of : outE pg ((8 * i + k + 1 : Nat) : Int) = pg[i].testBit k := by
  unfold outE
  rw [if_pos (in_of hi hk)]
  have e1 : (((8 * i + k + 1 : Nat) : Int).toNat - 1) / 8 = i := by omega
  have e2 : (((8 * i + k + 1 : Nat) : Int).toNat - 1) % 8 = k := by omega
  rw [e1, e2]
  simp [hi]
theorem give_of : giveS pg ((8 * i + k + 1 : Nat) : Int) = if pg[i].testBit k then pg.set i (clr pg[i] k) else pg := by
  unfold giveS
  rw [out_of hi hk]
  have e1 : (((8 * i + k + 1 : Nat) : Int).toNat - 1) / 8 = i := by omega
  have e2 : (((8 * i + k + 1 : Nat) : Int).toNat - 1) % 8 = k := by omega
  rw [e1, e2]
  simp [hi]
end

theorem add00 (b k : Nat) : Addr.add (Addr.add ⟨b, 0, none⟩ 0) k = (⟨b, 0, none⟩ : Addr).add k := by rw [add_lit b 0 0]
section
variable {w : World} {F : Fp} {b : Nat} {pg : List Nat}

theorem plE_at {i : Nat} (hi : i < pg.length) : (plE pg)[i]? = some (pgI pg[i]) := by
  unfold plE
  rw [List.getElem?_append_left (by simpa using hi)]
  simp [hi]
theorem plE_set {i : Nat} (hi : i < pg.length) (x : Nat) : setL (plE pg) i [pgI x] = plE (pg.set i x) := by
  unfold plE
  rw [setL_app (by simp; omega), setL_set hi]
  simp
theorem plE_many (h : PgOk pg) : (plE pg)[12]? = some (.int .i64 (pg.length : Int)) := by
  have := h.len
  unfold plE
  rw [List.getElem?_append_right (by simp; omega), List.getElem?_append_right (by simp)]
  simp
theorem PlO.page (h : PlO b w F pg) {i : Nat} (hi : i < pg.length) : w.cell? (Addr.add (Addr.add ⟨b, 0, none⟩ 0) (i * 1)) = some (.int .u8 (pg[i] : Int)) := by
  rw [add00, Nat.mul_one]
  exact h.1.blk.cell (plE_at hi)
theorem PlO.many (h : PlO b w F pg) : w.cell? ((⟨b, 0, none⟩ : Addr).add 12) = some (.int .i64 (pg.length : Int)) := h.1.blk.cell (plE_many h.2)
theorem PlO.wr (h : PlO b w F pg) {w1 : World} (hU : Upd no w w1) {i : Nat} (hi : i < pg.length) {x : Nat} (hx : x < 256) {K : World → Prop} (hK : ∀ w', Turn (PlO b) w w' F (pg.set i x) → K w') :
    Wr w1 (Addr.add (Addr.add ⟨b, 0, none⟩ 0) (i * 1)) [.int .u8 (x : Int)] K := by
  rw [add00, Nat.mul_one]
  have hB := h.1.blk.upd hU id
  refine hB.wr (by simp [plE]; omega) fun w' hW => hK w' ?_
  have hb := hW.blk'
  have e := plE_set hi x
  unfold pgI at e
  rw [e] at hb
  obtain ⟨F', t1, t2, t3⟩ := h.1.turned ((hU.mono fun _ _ h => h.elim).and hW.U) hb
  exact ⟨F', ⟨t1, h.2.set i hx⟩, t2, t3⟩

theorem new_ok (n : Int) (w : World) : Calls Try.prog 23 #[.int .i64 n] w fun e w' =>
    (¬ (1 ≤ n ∧ n ≤ 12) ∧ e = .returned (.tuple #[.pointer none, .int .i64 2]) ∧ w' = w) ∨
    ((1 ≤ n ∧ n ≤ 12) ∧ ∃ b F, e = .returned (.tuple #[.pointer (some ⟨b, 0, none⟩), .int .i64 0]) ∧ PlO b w' F (List.replicate n.toNat 0) ∧ Upd no w w' ∧ ∀ i, F i → w.heap.size ≤ i) := by
  refine u23 ?_
  rw [t23]
  refine ⟨fun h1 => ⟨fun h2 => .inl ⟨?_, rfl, rfl⟩, fun h2 => ?_⟩, fun h1 => .inl ⟨?_, rfl, rfl⟩⟩
  · simp at h2; omega
  · have h1 : ¬ n < 1 := by simpa using h1
    have h2 : ¬ 12 < n := by simpa using h2
    obtain ⟨m, rfl⟩ : ∃ m : Nat, n = m := ⟨n.toNat, by omega⟩
    refine ⟨fun w2 hN => .inr ⟨by omega, w.heap.size, _, rfl, ⟨Rw.new hN ?_, ⟨by simp; omega, fun x hx => ?_⟩⟩, hN.upd no, fun i hi => Nat.le_of_eq hi.symm⟩⟩
    · unfold plE
      rw [List.map_replicate, ← List.append_assoc, Int.toNat_natCast, List.length_replicate, List.replicate_append_replicate]
      rw [show m + (12 - m) = 12 by omega]
      rfl
    · have := List.eq_of_mem_replicate hx; omega
  · simp at h1; omega

theorem bit_in (h : PlO b w F pg) {i k : Nat} (hi : i < pg.length) (hk : k < 8) : Calls Try.prog 43 #[.pointer (some ⟨b, 0, none⟩), .int .i64 ((8 * i + k + 1 : Nat) : Int)] w fun e w' => e = .returned (.tuple #[.int .i64 (i : Int), .int .u8 (shlOp .u8 1 (k : Int))]) ∧ Upd no w w' := by
  have hl := h.2.len
  refine u43 ?_
  rw [t43]
  refine ⟨fun _ => ⟨fun _ => ⟨_, rfl, _, h.many, fun g => ?_, fun _ => ?_⟩, fun g => by simp at g; omega⟩, fun g => by simp at g⟩
  · rw [w64 (by omega)] at g; simp at g; omega
  · intro w1 q1 q2 q3 q4
    have e0 : IntKind.wrap .i64 (((8 * i + k + 1 : Nat) : Int) - 1) = ((8 * i + k : Nat) : Int) := by rw [w64 (by omega)]; omega
    have e1 : Int.tdiv ((8 * i + k : Nat) : Int) 8 = (i : Int) := by rw [Int.tdiv_eq_ediv_of_nonneg (by omega)]; omega
    have e2 : Int.tmod ((8 * i + k : Nat) : Int) 8 = (k : Int) := by rw [Int.tmod_eq_emod_of_nonneg (by omega)]; omega
    rw [e0, e1, e2]
    refine ⟨by omega, by omega, by omega, by rw [w64 (by omega)], Upd.same no q1 q2 q3 q4⟩
theorem bit_out (h : PlO b w F pg) {id : Int} (hi : ¬ inP pg id) : Calls Try.prog 43 #[.pointer (some ⟨b, 0, none⟩), .int .i64 id] w fun e w' => e = .returned (.tuple #[.int .i64 0, .int .u8 0]) ∧ w' = w := by
  have hl := h.2.len
  refine u43 ?_
  rw [t43]
  unfold inP at hi
  refine ⟨fun _ => ⟨fun g => ⟨_, rfl, _, h.many, fun _ => ⟨rfl, rfl⟩, fun g2 => ?_⟩, fun _ => ⟨rfl, rfl⟩⟩, fun g => by simp at g⟩
  rw [w64 (by omega)] at g2; simp at g g2; omega

theorem out_ok (h : PlO b w F pg) (id : Int) : Calls Try.prog 29 #[.pointer (some ⟨b, 0, none⟩), .int .i64 id] w fun e w' => e = .returned (.bool (outE pg id)) ∧ Upd no w w' := by
  refine u29 ?_
  rw [t29]
  by_cases hin : inP pg id
  · obtain ⟨i, k, hi, hk, rfl⟩ := in_split hin
    refine ⟨(bit_in h hi hk).mono ?_⟩
    rintro e w1 ⟨rfl, hU⟩
    have h1 : PlO b w1 F pg := (Frame.pl b).upd h hU fun _ _ h => h
    refine ⟨_, _, rfl, fun _ => ⟨_, rfl, ⟨by omega, by have := h.2.len; omega⟩, _, h1.page hi, ?_, hU⟩, fun g => ?_⟩
    · rw [out_of hi hk, (ops8 _ (h.2.at hi) k hk).2.2.1]
    · rw [shl8 k hk] at g; cases g
  · refine ⟨(bit_out h hin).mono ?_⟩
    rintro e w1 ⟨rfl, rfl⟩
    exact ⟨_, _, rfl, fun g => by simp at g, fun _ => ⟨by rw [outE, if_neg hin], Upd.refl _ _⟩⟩
theorem outNil_ok (id : Int) (w : World) : Calls Try.prog 29 #[.pointer none, .int .i64 id] w fun e w' => e = .returned (.bool false) ∧ w' = w := by
  refine u29 ?_
  rw [t29]
  refine ⟨u43 ?_⟩
  rw [t43]
  exact ⟨fun g => by simp at g, fun _ => ⟨_, _, rfl, fun g => by simp at g, fun _ => ⟨rfl, rfl⟩⟩⟩

theorem give_ok (h : PlO b w F pg) (id : Int) : Calls Try.prog 48 #[.pointer (some ⟨b, 0, none⟩), .int .i64 id] w fun e w' => e = .returned (.int .i64 (giveE pg id)) ∧ Turn (PlO b) w w' F (giveS pg id) := by
  refine u48 ?_
  rw [t48]
  refine ⟨fun g => by simp at g, fun _ => ⟨(out_ok h id).mono ?_⟩⟩
  rintro e w1 ⟨rfl, hU⟩
  refine ⟨_, rfl, fun g => ?_, fun g => ?_⟩
  · have g : ¬ outE pg id = true := by simpa using g
    rw [giveE, giveS, if_neg g, if_neg g]
    exact ⟨rfl, Turn.quiet h hU⟩
  · have g : outE pg id = true := by simpa using g
    have hin : inP pg id := by unfold outE at g; split at g <;> first | assumption | cases g
    obtain ⟨i, k, hi, hk, rfl⟩ := in_split hin
    have h1 : PlO b w1 F pg := (Frame.pl b).upd h hU fun _ _ h => h
    refine ⟨(bit_in h1 hi hk).mono ?_⟩
    rintro e w2 ⟨rfl, hU2⟩
    refine ⟨_, _, rfl, fun w3 q1 q2 q3 q4 => ?_⟩
    have hU3 := (hU.and hU2).and (Upd.same no q1 q2 q3 q4)
    have h3 : PlO b w3 F pg := (Frame.pl b).upd h hU3 fun _ _ h => h
    have hl := h.2.len
    refine ⟨_, rfl, ⟨by omega, by omega⟩, _, h3.page hi, _, rfl, ⟨by omega, by omega⟩, ?_⟩
    have o := ops8 _ (h.2.at hi) k hk
    rw [o.2.1]
    refine h.wr hU3 hi o.2.2.2.2.1 fun w' hT => ?_
    rw [giveE, if_pos g, give_of hi hk, if_pos (by rw [← out_of hi hk]; exact g)]
    exact ⟨rfl, hT⟩
theorem giveNil_ok (id : Int) (w : World) : Calls Try.prog 48 #[.pointer none, .int .i64 id] w fun e w' => e = .returned (.int .i64 1) ∧ w' = w := by
  refine u48 ?_
  rw [t48]
  exact ⟨fun _ => ⟨rfl, rfl⟩, fun g => by simp at g⟩

theorem find1_ok (h : PlO b w F pg) : Calls Try.prog 51 #[.pointer (some ⟨b, 0, none⟩), .func (.func 52) #[] #[]] w fun e w' => e = .returned (.int .i64 (fI (pg.findIdx? p1))) ∧ w' = w := by
  have hl := h.2.len
  refine u51 ?_
  rw [t51]
  refine ⟨_, rfl, _, h.many, ⟨WP_loop okProg (M := M51) (σ := Nat) (fun j => e51_1 (some ⟨b, 0, none⟩) (pg.length : Int) (j : Int)) (fun j w' => j ≤ pg.length ∧ (∀ i (hi : i < pg.length), i < j → p1 pg[i] = false) ∧ w' = w) (fun j _ => pg.length - j) 0 ⟨rfl, rfl, rfl, rfl, trivial⟩ ⟨by omega, fun i _ h => by omega, rfl⟩ ?_⟩⟩
  rintro j w' ⟨h1, h2, rfl⟩
  rw [t51_1]
  refine ⟨fun g => ?_, fun g => ⟨?_, rfl⟩⟩
  · have hj : j < pg.length := by simpa using g
    refine ⟨_, rfl, ⟨by omega, by omega⟩, _, h.page hj, ⟨u52 ?_⟩⟩
    rw [t52]
    have fin : ∃ b', Ending.returned (.bool (p1 pg[j])) = Ending.returned (.bool b') ∧ (b' = true → Ending.returned (Value.int .i64 (j : Int)) = Ending.returned (.int .i64 (fI (pg.findIdx? p1))) ∧ w' = w') ∧ (b' = false → ∃ j', CoversL [(0, SV.v (Value.pointer (some ⟨b, 0, none⟩))), (1, SV.v (Value.func (Fn.func 52) #[] #[])), (9, SV.v (Value.int IntKind.i64 (pg.length : Int))), (10, SV.v (Value.int IntKind.i64 (IntKind.wrap IntKind.i64 ((j : Int) + (1 : Int)))))] (e51_1 (some ⟨b, 0, none⟩) (pg.length : Int) (j' : Nat)) ∧ (j' ≤ pg.length ∧ (∀ i (hi : i < pg.length), i < j' → p1 pg[i] = false) ∧ w' = w') ∧ pg.length - j' < pg.length - j) := by
      refine ⟨_, rfl, fun g2 => ⟨by rw [fi_some hj h2 g2]; rfl, rfl⟩, fun g2 => ⟨j + 1, ⟨rfl, rfl, rfl, by rw [w64 (x := (j : Int) + 1) (by omega)]; rfl, trivial⟩, ⟨by omega, fun i hi hij => ?_, rfl⟩, by omega⟩⟩
      by_cases hij' : i = j
      · subst hij'; exact g2
      · exact h2 i hi (by omega)
    have hb : ((((pg[j] : Nat) : Int) != 0) = true) = ((pg[j] != 0) = true) := by simp
    have hb' : ((((pg[j] : Nat) : Int) != 0) = false) = ((pg[j] != 0) = false) := by simp
    rw [hb, hb']
    refine ⟨fun k1 => ?_, fun k1 => ?_⟩
    · have e : (((pg[j] : Nat) : Int) != 255) = p1 pg[j] := by
        unfold p1; rw [k1]; simp only [Bool.true_and]; rw [Bool.eq_iff_iff]; simp; omega
      rw [e]; exact fin
    · have e : p1 pg[j] = false := by unfold p1; rw [k1]; rfl
      rw [e] at fin; exact fin
  · have : j = pg.length := by simp at g; omega
    subst this
    rw [fi_none fun i hi => h2 i hi hi]; rfl
theorem find2_ok (h : PlO b w F pg) : Calls Try.prog 51 #[.pointer (some ⟨b, 0, none⟩), .func (.func 53) #[] #[]] w fun e w' => e = .returned (.int .i64 (fI (pg.findIdx? p2))) ∧ w' = w := by
  have hl := h.2.len
  refine Fn2.u51 ?_
  rw [Fn2.t51]
  refine ⟨_, rfl, _, h.many, ⟨WP_loop okProg (M := Fn2.M51) (σ := Nat) (fun j => Fn2.e51_1 (some ⟨b, 0, none⟩) (pg.length : Int) (j : Int)) (fun j w' => j ≤ pg.length ∧ (∀ i (hi : i < pg.length), i < j → p2 pg[i] = false) ∧ w' = w) (fun j _ => pg.length - j) 0 ⟨rfl, rfl, rfl, rfl, trivial⟩ ⟨by omega, fun i _ h => by omega, rfl⟩ ?_⟩⟩
  rintro j w' ⟨h1, h2, rfl⟩
  rw [Fn2.t51_1]
  refine ⟨fun g => ?_, fun g => ⟨?_, rfl⟩⟩
  · have hj : j < pg.length := by simpa using g
    refine ⟨_, rfl, ⟨by omega, by omega⟩, _, h.page hj, ⟨u53 ?_⟩⟩
    rw [t53]
    have e : (((pg[j] : Nat) : Int) == 0) = p2 pg[j] := by unfold p2; rw [Bool.eq_iff_iff]; simp
    rw [e]
    refine ⟨_, rfl, fun g2 => ⟨by rw [fi_some hj h2 g2]; rfl, rfl⟩, fun g2 => ⟨j + 1, ⟨rfl, rfl, rfl, by rw [w64 (x := (j : Int) + 1) (by omega)]; rfl, trivial⟩, ⟨by omega, fun i hi hij => ?_, rfl⟩, by omega⟩⟩
    by_cases hij' : i = j
    · subst hij'; exact g2
    · exact h2 i hi (by omega)
  · have : j = pg.length := by simp at g; omega
    subst this
    rw [fi_none fun i hi => h2 i hi hi]; rfl

theorem take0_ok (h : PlO b w F pg) : CutD Try.prog M47 c47_0 (e47_0 (some ⟨b, 0, none⟩) (fI (takeP pg))) w (k47_0 fun e w' => e = .returned (.tuple #[.int .i64 (takeE pg).1, .int .i64 (takeE pg).2]) ∧ Turn (PlO b) w w' F (takeS pg)) := by
  refine CutD.mk ?_
  rw [t47_0]
  have hl := h.2.len
  unfold takeE takeS
  cases hp : takeP pg with
  | none =>
    simp only [fI]
    exact ⟨fun _ => ⟨by trivial, Turn.same h⟩, fun g => by simp at g⟩
  | some i =>
    obtain ⟨hi, hne⟩ := takeP_at hp
    have hx := h.2.at hi
    obtain ⟨o1, o2, o3, o4⟩ := one8 _ hx
    have o4 := o4 hne
    have o := ops8 _ hx _ o4.1
    have hg : pg.getD i 0 = pg[i] := by simp [hi]
    simp only [fI, hg]
    refine ⟨fun g => absurd (of_decide_eq_true g) (by omega), fun _ => ⟨_, rfl, ⟨by omega, by omega⟩, _, h.page hi, ?_⟩⟩
    rw [o1]
    refine ⟨(tz8_ok (by omega) w).mono ?_⟩
    rintro e w1 ⟨rfl, rfl⟩
    refine ⟨_, rfl, fun w2 q1 q2 q3 q4 => ?_⟩
    have hU := Upd.same no q1 q2 q3 q4
    have h2 : PlO b w2 F pg := (Frame.pl b).upd h hU fun _ _ h => h
    refine ⟨_, rfl, ⟨by omega, by omega⟩, _, h2.page hi, by omega, _, rfl, ⟨by omega, by omega⟩, ?_⟩
    show Wr w2 _ [.int .u8 (bitsOp .or .u8 (pg[i] : Int) (shlOp .u8 1 (z8 pg[i] : Int)))] _
    rw [o.1]
    refine h.wr hU hi o.2.2.2.1 fun w' hT => ⟨?_, hT⟩
    show Ending.returned (.tuple #[.int .i64 (IntKind.wrap .i64 (IntKind.wrap .i64 (IntKind.wrap .i64 ((i : Int) * 8) + (z8 pg[i] : Int)) + 1)), .int .i64 0]) = _
    rw [w64 (x := (i : Int) * 8) (by omega), w64 (x := (i : Int) * 8 + (z8 pg[i] : Int)) (by omega), w64 (by omega)]
    have : (i : Int) * 8 + (z8 pg[i] : Int) + 1 = ((8 * i + z8 pg[i] + 1 : Nat) : Int) := by omega
    rw [this]
theorem take_ok (h : PlO b w F pg) : Calls Try.prog 47 #[.pointer (some ⟨b, 0, none⟩)] w fun e w' => e = .returned (.tuple #[.int .i64 (takeE pg).1, .int .i64 (takeE pg).2]) ∧ Turn (PlO b) w w' F (takeS pg) := by
  refine u47 ?_
  rw [t47]
  refine ⟨fun g => by simp at g, fun _ => ⟨(find1_ok h).mono ?_⟩⟩
  rintro e w1 ⟨rfl, rfl⟩
  have h0 := take0_ok h
  unfold takeP at h0
  cases hp : pg.findIdx? p1 with
  | some i =>
    rw [hp] at h0
    exact ⟨_, rfl, fun g => absurd (of_decide_eq_true g) (by simp only [fI]; omega), fun _ => h0⟩
  | none =>
    rw [hp] at h0
    refine ⟨_, rfl, fun _ => ⟨(find2_ok h).mono ?_⟩, fun g => by simp [fI] at g⟩
    rintro e w1 ⟨rfl, rfl⟩
    exact ⟨_, rfl, h0⟩
theorem takeNil_ok (w : World) : Calls Try.prog 47 #[.pointer none] w fun e w' => e = .returned (.tuple #[.int .i64 0, .int .i64 1]) ∧ w' = w := by
  refine u47 ?_
  rw [t47]
  exact ⟨fun _ => ⟨rfl, rfl⟩, fun g => by simp at g⟩

theorem count_take {pg : List Nat} {j : Nat} (hj : j < pg.length) (p : Nat → Bool) : (pg.take (j + 1)).countP p = (pg.take j).countP p + if p pg[j] then 1 else 0 := by
  rw [List.take_succ_eq_append_getElem hj, List.countP_append, List.countP_singleton]
theorem sum_le {pg : List Nat} (f : Nat → Nat) (hf : ∀ x, f x ≤ 8) : (pg.map f).sum ≤ 8 * pg.length := by
  induction pg with
  | nil => simp
  | cons x l ih => have := hf x; simp; omega

theorem plE_pad (h : PgOk pg) : ∀ i, i < 12 → (plE pg)[i]? = some (pgI (pg.getD i 0)) := by
  intro i hi
  by_cases hl : i < pg.length
  · rw [plE_at hl]; simp [hl]
  · unfold plE
    have := h.len
    rw [List.getElem?_append_right (by simp; omega), List.getElem?_append_left (by simp; omega)]
    simp [List.getD_eq_getElem?_getD, List.getElem?_eq_none (show pg.length ≤ i by omega), List.getElem?_replicate]
    omega
theorem pad_sum (pg : List Nat) (h : pg.length ≤ 12) (f : Nat → Nat) (h0 : f 0 = 0) : ((List.range 12).map (fun i => f (pg.getD i 0))).sum = (pg.map f).sum := by
  have e : (12 : Nat) = pg.length + (12 - pg.length) := by omega
  rw [e, List.range_add, List.map_append, List.sum_append]
  have e1 : (List.range pg.length).map (fun i => f (pg.getD i 0)) = pg.map f := by
    apply List.ext_getElem?
    intro i
    by_cases hi : i < pg.length
    · simp [hi]
    · rw [List.getElem?_eq_none (by simp; omega), List.getElem?_eq_none (by simp; omega)]
  have e2 : ∀ l : List Nat, ((l.map (pg.length + ·)).map (fun i => f (pg.getD i 0))).sum = 0 := by
    intro l
    induction l with
    | nil => rfl
    | cons x l ih =>
      simp only [List.map_cons, List.sum_cons]
      rw [ih, List.getD_eq_getElem?_getD, List.getElem?_eq_none (by omega)]
      simp [h0]
  rw [e1, e2]
  omega
theorem free_ok (h : PlO b w F pg) : Calls Try.prog 28 #[.pointer (some ⟨b, 0, none⟩)] w fun e w' => e = .returned (.int .i64 (freeN pg : Int)) ∧ w' = w := by
  have hl := h.2.len
  refine u28 ?_
  rw [t28]
  have hc : ∀ i, i < 12 → w.cell? (Addr.add (Addr.add ⟨b, 0, none⟩ 0) i) = some (.int .u8 ((pg.getD i 0 : Nat) : Int)) := fun i hi => by rw [add00]; exact h.1.blk.cell (plE_pad h.2 i hi)
  have hlt : ∀ i, pg.getD i 0 < 256 := fun i => by
    by_cases hi : i < pg.length
    · have := h.2.at hi; simp [hi]; exact this
    · rw [List.getD_eq_getElem?_getD, List.getElem?_eq_none (by omega)]; simp
  have hn : pg.length * 8 - ((List.range 12).map (fun i => oc8 (pg.getD i 0))).sum = freeN pg := by
    rw [pad_sum pg hl.2 oc8 (by decide), freeN, Nat.mul_comm]
  have hle := sum_le (pg := pg) oc8 oc8_le
  rw [← pad_sum pg hl.2 oc8 (by decide)] at hle
  generalize hg : (fun i => pg.getD i 0) = g at *
  have hgi : ∀ i, pg.getD i 0 = g i := fun i => congrFun hg i
  simp only [hgi] at hc hlt hn hle
  refine ⟨fun g => by simp at g, fun _ => ⟨_, rfl, _, h.many, _, rfl, _, hc 0 (by decide), _, hc 1 (by decide), _, hc 2 (by decide), _, hc 3 (by decide), _, hc 4 (by decide), _, hc 5 (by decide), _, hc 6 (by decide), _, hc 7 (by decide), _, hc 8 (by decide), _, hc 9 (by decide), _, hc 10 (by decide), _, hc 11 (by decide), ?_⟩⟩
  have hs : ∀ j, j ≤ 12 → ((List.range j).map (fun i => oc8 (g i))).sum ≤ pg.length * 8 := fun j hj => by
    have e : (List.range 12) = List.range j ++ (List.range (12 - j)).map (j + ·) := by rw [← List.range_add]; congr 1; omega
    rw [e, List.map_append, List.sum_append] at hle
    omega
  refine ⟨WP_loop okProg (M := M28) (σ := Nat) (fun j => e28_1 ((pg.length * 8 - ((List.range j).map (fun i => oc8 (g i))).sum : Nat) : Int) (g 0) (g 1) (g 2) (g 3) (g 4) (g 5) (g 6) (g 7) (g 8) (g 9) (g 10) (g 11) (j : Int)) (fun j w' => j ≤ 12 ∧ w' = w) (fun j _ => 12 - j) 0
    ⟨by rw [w64 (by omega)]; exact congrArg (fun z : Int => some (Value.int .i64 z)) (by simp), rfl, rfl, trivial⟩ ⟨by omega, rfl⟩ ?_⟩
  rintro j w' ⟨h1, rfl⟩
  rw [t28_1]
  refine ⟨fun gg => ?_, fun gg => ?_⟩
  · have hj : j < 12 := by simp at gg; omega
    refine ⟨⟨by omega, by omega⟩, (g j : Int), ?_, ⟨(oc8_ok (hlt j) w').mono ?_⟩⟩
    · have : ∀ j, j < 12 → [Value.int .u8 (g 0 : Int), .int .u8 (g 1 : Int), .int .u8 (g 2 : Int), .int .u8 (g 3 : Int), .int .u8 (g 4 : Int), .int .u8 (g 5 : Int), .int .u8 (g 6 : Int), .int .u8 (g 7 : Int), .int .u8 (g 8 : Int), .int .u8 (g 9 : Int), .int .u8 (g 10 : Int), .int .u8 (g 11 : Int)][j]? = some (.int .u8 (g j : Int)) := by
        intro j hj
        match j, hj with
        | 0, _ | 1, _ | 2, _ | 3, _ | 4, _ | 5, _ | 6, _ | 7, _ | 8, _ | 9, _ | 10, _ | 11, _ => rfl
      have := this j hj
      simpa using this
    rintro e w2 ⟨rfl, rfl⟩
    have h3 := hs (j + 1) (by omega)
    have e1 : ((List.range (j + 1)).map (fun i => oc8 (g i))).sum = ((List.range j).map (fun i => oc8 (g i))).sum + oc8 (g j) := by rw [List.range_succ]; simp
    rw [e1] at h3
    refine ⟨_, rfl, j + 1, ⟨?_, rfl, by rw [w64 (x := (j : Int) + 1) (by omega)]; rfl, trivial⟩, ⟨by omega, rfl⟩, by omega⟩
    rw [e1, w64 (x := ((pg.length * 8 - ((List.range j).map (fun i => oc8 (g i))).sum : Nat) : Int) - (oc8 (g j) : Int)) (by omega)]
    exact congrArg (fun z : Int => some (Value.int .i64 z)) (by omega)
  · have : j = 12 := by simp at gg; omega
    subst this
    rw [hn]
    exact ⟨rfl, rfl⟩
theorem freeNil_ok (w : World) : Calls Try.prog 28 #[.pointer none] w fun e w' => e = .returned (.int .i64 0) ∧ w' = w := by
  refine u28 ?_
  rw [t28]
  exact ⟨fun _ => ⟨rfl, rfl⟩, fun g => by simp at g⟩
end
end Go.Dav
