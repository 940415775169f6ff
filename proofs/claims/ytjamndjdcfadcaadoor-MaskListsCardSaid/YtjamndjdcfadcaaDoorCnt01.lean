/- What the functions on the cores of a mask come to: how many, the lowest, the greatest, the next one, all. -/
import Derived.Test.YtjamndjdcfadcaaDoorMsk01
import Derived.Test.YtjamndjdcfadcaaDoorLst01
import Derived.Test.YtjamndjdcfadcaaDoorPop
import Derived.Test.YtjamndjdcfadcaaDoorByt
import Derived.Lib.LaidTab
set_option linter.unusedSimpArgs false
set_option linter.unusedVariables false
namespace Go.Dav
open Go.Proofs

/-- The library's table is as its text lays it. -/
def Tab (w : World) : Prop := Cells w (some ⟨0, 0, none⟩) (dbt.map (fun (z : Nat) => Value.int .u8 (z : Int)))
theorem Tab.no {w w' : World} (h : Tab w) (k : Upd no w w') : Tab w' := Cells.no h k
theorem tabG : Tryd.prog.globalNamed "math/bits.deBruijn64tab" = some 0 := by kernel_rfl
theorem tabT : (Tryd.prog.globals[0]?).map (·.type) = some 50 := by kernel_rfl
theorem tabU : Tryd.prog.underlying 50 = some (.array 64 5) := by kernel_rfl
theorem tabE : Tryd.prog.underlying 5 = some (.int .u8) := by kernel_rfl
def dbz : List Int := dbt.map (fun (z : Nat) => (z : Int))
theorem tab_ok {W : World} (h : laidMet Tryd.prog [("math/bits.deBruijn64tab", Lib.tabData .u8 dbz)] W) : Tab W := by
  have hT := Lib.tabIs_of_head tabG tabT tabU tabE (by kernel_rfl) (by kernel_rfl) h
  intro j v hj
  refine ⟨_, rfl, ?_⟩
  rw [add_lit, Nat.zero_add]
  rw [List.getElem?_map] at hj
  obtain ⟨z, hz, rfl⟩ := Option.map_eq_some_iff.1 hj
  have hl : j < dbt.length := (List.getElem?_eq_some_iff.1 hz).1
  rw [hT.cell tabG j (by simpa [dbz] using hl)]
  have e : dbz.getD j 0 = (z : Int) := by simp [dbz, List.getD_eq_getElem?_getD, hz]
  rw [e]

theorem tz_ok (m : BV) {w : World} (hT : Tab w) : Calls Tryd.prog 39 #[.int .u64 (mi m)] w fun e w' => e = .returned (.int .i64 (tz m)) ∧ w' = w := by
  refine u39 ?_
  rw [t39]
  refine ⟨fun g => ?_, fun g => ⟨by decide, ?_⟩⟩
  · rw [mi_beq0] at g
    have : m = 0 := by simpa using g
    subst this
    exact ⟨by rw [tz_zero], rfl⟩
  · rw [mi_beq0] at g
    have hm : m ≠ 0 := by simpa using g
    obtain ⟨k, hk, h1, h2⟩ := low_ex hm
    rw [neg_wrap, bits_and, low_neg hk h1 h2]
    obtain ⟨d1, d2, d3⟩ := dbp_ok k hk
    unfold dbp at d1 d2 d3
    rw [tz_low hk h1 h2]
    generalize shrOp .u64 (IntKind.wrap .u64 (mi (bt k) * 285870213051353865)) 58 = ix at *
    have hl : ix.toNat < dbt.length := (List.getElem?_eq_some_iff.1 d3).1
    obtain ⟨a, ha, hc⟩ := hT.at1 hl
    cases ha
    have : dbt[ix.toNat] = k := by rw [List.getElem?_eq_getElem hl] at d3; exact Option.some.inj d3
    rw [this] at hc
    exact ⟨⟨d1, d2⟩, _, hc, by rw [w64 (by omega)], rfl⟩
def oA (x : Int) : Int := IntKind.wrap .u64 (bitsOp .and .u64 (shrOp .u64 x 1) 6148914691236517205 + bitsOp .and .u64 x 6148914691236517205)
def oB (x : Int) : Int := IntKind.wrap .u64 (bitsOp .and .u64 (shrOp .u64 x 2) 3689348814741910323 + bitsOp .and .u64 x 3689348814741910323)
def oC (x : Int) : Int := bitsOp .and .u64 (IntKind.wrap .u64 (shrOp .u64 x 4 + x)) 1085102592571150095
def oD (x : Int) : Int := IntKind.wrap .u64 (x + shrOp .u64 x 8)
def oE (x : Int) : Int := IntKind.wrap .u64 (x + shrOp .u64 x 16)
def oF (x : Int) : Int := IntKind.wrap .u64 (x + shrOp .u64 x 32)
def oG (x : Int) : Int := bitsOp .and .i64 (IntKind.wrap .i64 x) 127
theorem rep_lt {m n x : Nat} (h : x &&& m = n) (hm : m < 2 ^ 63) : n < 2 ^ 63 := h ▸ Nat.and_lt_two_pow x hm
theorem and127 {x : Nat} (h : x < 18446744073709551616) : oG (x : Int) = ((x % 128 : Nat) : Int) := by
  unfold oG
  have e1 : BitVec.ofInt 64 (IntKind.wrap .i64 (x : Int)) = BitVec.ofNat 64 x := by
    apply BitVec.eq_of_toNat_eq
    rw [BitVec.toNat_ofInt, BitVec.toNat_ofNat]
    have : IntKind.wrap .i64 (x : Int) = if (x : Int) < 9223372036854775808 then (x : Int) else (x : Int) - 18446744073709551616 := by
      unfold IntKind.wrap
      simp only [IntKind.bits, IntKind.signed, Bool.true_and]
      split <;> split <;> simp_all <;> omega
    rw [this]
    split <;> omega
  show IntKind.wrap .i64 ((BitVec.ofInt 64 (IntKind.wrap .i64 (x : Int)) &&& BitVec.ofInt 64 127).toNat : Int) = _
  rw [e1]
  have e2 : BitVec.ofInt 64 127 = BitVec.ofNat 64 127 := rfl
  rw [e2, BitVec.toNat_and, BitVec.toNat_ofNat, BitVec.toNat_ofNat, Nat.mod_eq_of_lt h]
  have e3 : x &&& (127 % 2 ^ 64) = x % 128 := Nat.and_two_pow_sub_one_eq_mod x 7
  rw [e3, w64 (by omega)]
theorem oc_val (m : BV) : oG (oF (oE (oD (oC (oB (oA (mi m))))))) = ((cs m).length : Int) := by
  have hx : m.toNat < 2 ^ 64 := m.isLt
  obtain ⟨x, hxe⟩ : ∃ x, x = m.toNat := ⟨_, rfl⟩
  rw [cs_pc, show (mi m) = ((x : Nat) : Int) by rw [hxe]; rfl, ← hxe]
  rw [← hxe] at hx
  clear hxe
  have r1 : rep8 85 8 = 6148914691236517205 := by decide +kernel
  have r2 : rep8 51 8 = 3689348814741910323 := by decide +kernel
  have r3 : rep8 15 8 = 1085102592571150095 := by decide +kernel
  have hb := abc_val (bytes8 8 x) (bytes_lt 8 x)
  rw [bytes_len, val_bytes 8 x (by omega), r1, r2, r3] at hb
  have a1 : x / 2 &&& 6148914691236517205 < 2 ^ 63 := Nat.and_lt_two_pow _ (by omega)
  have a2 : x &&& 6148914691236517205 < 2 ^ 63 := Nat.and_lt_two_pow _ (by omega)
  have eA : oA (x : Int) = ((sA x 6148914691236517205 : Nat) : Int) := by
    unfold oA sA
    rw [show (1 : Int) = ((1 : Nat) : Int) from rfl, shrN (d := 2) x (by omega) rfl, show (6148914691236517205 : Int) = ((6148914691236517205 : Nat) : Int) from rfl, andN (by omega) (by omega), andN (by omega) (by omega), addN (by omega)]
  have hA : sA x 6148914691236517205 < 2 ^ 64 := by unfold sA; omega
  rw [eA]
  generalize sA x 6148914691236517205 = y at *
  have b1 : y / 4 &&& 3689348814741910323 < 2 ^ 62 := Nat.and_lt_two_pow _ (by omega)
  have b2 : y &&& 3689348814741910323 < 2 ^ 62 := Nat.and_lt_two_pow _ (by omega)
  have eB : oB (y : Int) = ((sB y 3689348814741910323 : Nat) : Int) := by
    unfold oB sB
    rw [show (2 : Int) = ((2 : Nat) : Int) from rfl, shrN (d := 4) y (by omega) rfl, show (3689348814741910323 : Int) = ((3689348814741910323 : Nat) : Int) from rfl, andN (by omega) (by omega), andN (by omega) (by omega), addN (by omega)]
  have hB : sB y 3689348814741910323 < 2 ^ 63 := by unfold sB; omega
  rw [eB]
  generalize sB y 3689348814741910323 = z at *
  have eC : oC (z : Int) = ((sC z 1085102592571150095 : Nat) : Int) := by
    unfold oC sC
    rw [show (4 : Int) = ((4 : Nat) : Int) from rfl, shrN (d := 16) z (by omega) rfl, addN (by omega), show (1085102592571150095 : Int) = ((1085102592571150095 : Nat) : Int) from rfl, andN (by omega) (by omega)]
  rw [eC, hb, pc_bytes 8 x]
  have hl := bytes_len 8 x
  have hlt := bytes_lt 8 x
  generalize bytes8 8 x = l at *
  match l, hl, hlt with
  | [c0, c1, c2, c3, c4, c5, c6, c7], _, hlt =>
    have q : ∀ c ∈ [c0, c1, c2, c3, c4, c5, c6, c7], pcN 8 c ≤ 8 := fun c hc => (abc_byte c (hlt c hc)).2.2.2
    simp only [List.map_cons, List.map_nil, List.sum_cons, List.sum_nil]
    generalize hy : val8 [pcN 8 c0, pcN 8 c1, pcN 8 c2, pcN 8 c3, pcN 8 c4, pcN 8 c5, pcN 8 c6, pcN 8 c7] = v
    obtain ⟨f1, f2, f3, f4⟩ := fold8 (pcN 8 c0) (pcN 8 c1) (pcN 8 c2) (pcN 8 c3) (pcN 8 c4) (pcN 8 c5) (pcN 8 c6) (pcN 8 c7) (q _ (by simp)) (q _ (by simp)) (q _ (by simp)) (q _ (by simp)) (q _ (by simp)) (q _ (by simp)) (q _ (by simp)) (q _ (by simp)) hy.symm rfl rfl rfl
    have eD : oD (v : Int) = ((v + v / 256 : Nat) : Int) := by
      unfold oD
      rw [show (8 : Int) = ((8 : Nat) : Int) from rfl, shrN (d := 256) v (by omega) rfl, addN (by omega)]
    have eE : ∀ v : Nat, v + v / 65536 < 18446744073709551616 → oE (v : Int) = ((v + v / 65536 : Nat) : Int) := fun v h => by
      unfold oE
      rw [show (16 : Int) = ((16 : Nat) : Int) from rfl, shrN (d := 65536) v (by omega) rfl, addN (by omega)]
    have eF : ∀ v : Nat, v + v / 4294967296 < 18446744073709551616 → oF (v : Int) = ((v + v / 4294967296 : Nat) : Int) := fun v h => by
      unfold oF
      rw [show (32 : Int) = ((32 : Nat) : Int) from rfl, shrN (d := 4294967296) v (by omega) rfl, addN (by omega)]
    rw [eD, eE _ f2, eF _ f3, and127 f3, f4]
    congr 1
    omega
theorem oc_ok (m : BV) (w : World) : Calls Tryd.prog 38 #[.int .u64 (mi m)] w fun e w' => e = .returned (.int .i64 ((cs m).length : Int)) ∧ w' = w := by
  refine u38 ?_
  rw [t38]
  refine ⟨by decide, by decide, by decide, by decide, by decide, by decide, ?_, rfl⟩
  show Ending.returned (.int .i64 (oG (oF (oE (oD (oC (oB (oA (mi m)))))))) ) = _
  rw [oc_val]
theorem mMany_ok (m : BV) (w : World) : Calls Tryd.prog 26 #[.int .u64 (mi m)] w fun e w' => e = .returned (.int .i64 ((cs m).length : Int)) ∧ w' = w := by
  refine u26 ?_
  rw [t26]
  refine ⟨(oc_ok m w).mono ?_⟩
  rintro e w' ⟨rfl, rfl⟩
  exact ⟨_, rfl, rfl, rfl⟩
/-- The first, the last one of a mask; the one behind another one. -/
def firstE (m : BV) : Int × Int := match cs m with | [] => (0, 12) | a :: _ => (a, 0)
def lastE (m : BV) : Int × Int := match (cs m).getLast? with | none => (0, 12) | some a => (a, 0)
def nextE (m : BV) (c : Int) : Int × Int := match (cs m).find? (fun d => decide (d > c)) with | some d => (d, 0) | none => firstE m
theorem firstE_ne {m : BV} (h : m ≠ 0) : firstE m = (tz m, 0) := by unfold firstE; rw [cs_cons h]
theorem firstE_zero : firstE 0 = (0, 12) := by unfold firstE; rw [cs_zero]
theorem mFirst_ok (m : BV) {w : World} (hT : Tab w) : Calls Tryd.prog 28 #[.int .u64 (mi m)] w fun e w' => e = .returned (.tuple #[.int .i64 (firstE m).1, .int .i64 (firstE m).2]) ∧ w' = w := by
  refine u28 ?_
  rw [t28]
  refine ⟨fun g => ?_, fun g => ⟨(tz_ok m hT).mono ?_⟩⟩
  · rw [mi_beq0] at g
    have : m = 0 := by simpa using g
    subst this
    exact ⟨by rw [firstE_zero], rfl⟩
  · rw [mi_beq0] at g
    rintro e w' ⟨rfl, rfl⟩
    exact ⟨_, rfl, by rw [firstE_ne (by simpa using g)], rfl⟩
theorem cs_above (m : BV) (c : Int) : cs (m &&& ~~~ upM (c + 1)) = (cs m).filter (fun d => decide (d > c)) := by
  unfold cs upto
  rw [List.filter_filter]
  apply List.filter_congr
  intro d hd
  obtain ⟨i, hi, rfl⟩ := List.mem_map.1 hd
  rw [List.mem_range] at hi
  rw [hs_not, hs_upM, decide_eq_true (show 0 ≤ (i : Int) ∧ (i : Int) < 64 by omega), Bool.true_and]
  by_cases hc : (i : Int) > c
  · simp [hc, show ¬ ((i : Int) < c + 1) by omega]
  · simp [hc, show (i : Int) < c + 1 by omega]
theorem next_above {m : BV} {c : Int} (h : m &&& ~~~ upM (c + 1) ≠ 0) : firstE (m &&& ~~~ upM (c + 1)) = nextE m c := by
  unfold nextE
  rw [firstE_ne h]
  have e : ((cs m).filter (fun d => decide (d > c))).head? = some (tz (m &&& ~~~ upM (c + 1))) := by rw [← cs_above, cs_cons h]; rfl
  rw [List.head?_filter] at e
  rw [e]
theorem next_wrap {m : BV} {c : Int} (h : m &&& ~~~ upM (c + 1) = 0) : nextE m c = firstE m := by
  unfold nextE
  have e : (cs m).filter (fun d => decide (d > c)) = [] := by rw [← cs_above, h, cs_zero]
  rw [List.filter_eq_nil_iff] at e
  rw [List.find?_eq_none.2 e]
theorem next_low {m : BV} {c : Int} (h : c < 0) : nextE m c = firstE m := by
  unfold nextE firstE
  cases hc : cs m with
  | nil => rfl
  | cons a l =>
    have : hs m a = true := mem_cs.1 (by rw [hc]; simp)
    have := hs_in this
    have e : decide (a > c) = true := by simp; omega
    simp [e]
theorem next_high {m : BV} {c : Int} (h : 63 ≤ c) : nextE m c = firstE m := by
  unfold nextE
  rw [List.find?_eq_none.2]
  intro d hd
  have := hs_in (mem_cs.1 hd)
  simp; omega
theorem mNext_ok (m : BV) (c : Int) {w : World} (hT : Tab w) : Calls Tryd.prog 27 #[.int .u64 (mi m), .int .i64 c] w fun e w' => e = .returned (.tuple #[.int .i64 (nextE m c).1, .int .i64 (nextE m c).2]) ∧ w' = w := by
  refine u27 ?_
  rw [t27]
  refine ⟨fun g => ⟨fun g2 => ⟨(mFirst_ok m hT).mono ?_⟩, fun g2 => ?_⟩, fun g => ⟨(mFirst_ok m hT).mono ?_⟩⟩
  · rintro e w' ⟨rfl, rfl⟩
    exact ⟨_, _, rfl, by rw [next_high (of_decide_eq_true g2)], rfl⟩
  · have h1 : ¬ c < 0 := of_decide_eq_false g
    have h2 : ¬ c ≥ 63 := of_decide_eq_false g2
    rw [w64 (by omega)]
    refine ⟨(mUpto_ok (c + 1) w).mono ?_⟩
    rintro e w' ⟨rfl, rfl⟩
    refine ⟨_, rfl, ?_⟩
    rw [bits_not, mi_bne0]
    refine ⟨fun g3 => ⟨(mFirst_ok _ hT).mono ?_⟩, fun g3 => ⟨(mFirst_ok m hT).mono ?_⟩⟩
    · rintro e w' ⟨rfl, rfl⟩
      exact ⟨_, _, rfl, by rw [next_above (by simpa using g3)], rfl⟩
    · rintro e w' ⟨rfl, rfl⟩
      exact ⟨_, _, rfl, by rw [next_wrap (by simpa using g3)], rfl⟩
  · rintro e w' ⟨rfl, rfl⟩
    exact ⟨_, _, rfl, by rw [next_low (of_decide_eq_true g)], rfl⟩
theorem len_high {m : BV} {n : Nat} (h1 : 2 ^ (n - 1) ≤ m.toNat) (h2 : m.toNat < 2 ^ n) (hn : 0 < n) : lastE m = ((n : Int) - 1, 0) := by
  have h64 : n - 1 < 64 := by
    have := m.isLt
    exact (Nat.pow_lt_pow_iff_right (a := 2) (by omega)).1 (by omega)
  have b1 : hs m ((n - 1 : Nat) : Int) = true := by
    unfold hs
    rw [decide_eq_true (show 0 ≤ ((n - 1 : Nat) : Int) ∧ ((n - 1 : Nat) : Int) < 64 by omega), Bool.true_and]
    show m.toNat.testBit _ = true
    rw [Int.toNat_natCast]
    exact Nat.testBit_of_two_pow_le_and_two_pow_add_one_gt h1 (by rw [show n - 1 + 1 = n by omega]; exact h2)
  have b2 : ∀ j : Int, ((n - 1 : Nat) : Int) < j → hs m j = false := by
    intro j hj
    unfold hs
    have : m.getLsbD j.toNat = false := Nat.testBit_lt_two_pow (Nat.lt_of_lt_of_le h2 (Nat.pow_le_pow_right (by omega) (by omega)))
    rw [this, Bool.and_false]
  unfold lastE
  rw [cs_high h64 b1 b2, List.getLast?_append]
  simp
  omega
theorem len1_ok {x : Nat} (hx : x < 65536) {n : Int} (hn : 0 ≤ n ∧ n ≤ 48) (w : World) : CutD Tryd.prog M40 c40_1 (e40_1 (x : Int) n) w (k40_1 fun e w' => e = .returned (.int .i64 (n + bitLen x)) ∧ w' = w) := by
  refine CutD.mk ?_
  rw [t40_1]
  have hle : ∀ y : Nat, y < 256 → bitLen y ≤ 8 := fun y hy => bitLen_le8 y hy
  refine ⟨fun g => ⟨by decide, ?_⟩, fun g => ?_⟩
  · have g : 256 ≤ x := by have := of_decide_eq_true g; omega
    have e : shrOp .u64 (x : Int) 8 = ((x / 256 : Nat) : Int) := by rw [show (8 : Int) = ((8 : Nat) : Int) from rfl, shrN (d := 256) x (by omega) rfl]
    rw [e, wrap8 (by omega)]
    have hl := hle (x / 256) (by omega)
    have hs : bitLen x = 8 + bitLen (x / 256) := bitLen_shift x 8 (by omega)
    refine ⟨⟨by omega, by omega⟩, (bitLen (x / 256) : Int), byte_at bitLen (by decide +kernel) (by omega), ?_, rfl⟩
    rw [w64 (x := n + 8) (by omega), w64 (x := (bitLen (x / 256) : Int)) (by omega), w64 (by omega), hs]
    have : n + 8 + (bitLen (x / 256) : Int) = n + ((8 + bitLen (x / 256) : Nat) : Int) := by omega
    rw [this]
  · have g : ¬ 256 ≤ x := by have := of_decide_eq_false g; omega
    rw [wrap8 (by omega)]
    have hl := hle x (by omega)
    refine ⟨⟨by omega, by omega⟩, (bitLen x : Int), byte_at bitLen (by decide +kernel) (by omega), ?_, rfl⟩
    rw [w64 (x := (bitLen x : Int)) (by omega), w64 (by omega)]
theorem len0_ok {x : Nat} (hx : x < 4294967296) {n : Int} (hn : 0 ≤ n ∧ n ≤ 32) (w : World) : CutD Tryd.prog M40 c40_0 (e40_0 (x : Int) n) w (k40_0 fun e w' => e = .returned (.int .i64 (n + bitLen x)) ∧ w' = w) := by
  refine CutD.mk ?_
  rw [t40_0]
  refine ⟨fun g => ⟨by decide, ?_⟩, fun g => len1_ok (by have := of_decide_eq_false g; omega) (by omega) w⟩
  have g : 65536 ≤ x := by have := of_decide_eq_true g; omega
  have e : shrOp .u64 (x : Int) 16 = ((x / 65536 : Nat) : Int) := by rw [show (16 : Int) = ((16 : Nat) : Int) from rfl, shrN (d := 65536) x (by omega) rfl]
  have hs : bitLen x = 16 + bitLen (x / 65536) := bitLen_shift x 16 (by omega)
  rw [e, w64 (by omega)]
  have := len1_ok (x := x / 65536) (by omega) (n := n + 16) (by omega) w
  rw [show n + 16 + (bitLen (x / 65536) : Int) = n + (bitLen x : Int) by rw [hs]; omega] at this
  exact this
theorem len_ok (m : BV) (w : World) : Calls Tryd.prog 40 #[.int .u64 (mi m)] w fun e w' => e = .returned (.int .i64 (bitLen m.toNat)) ∧ w' = w := by
  refine u40 ?_
  rw [t40]
  have hx : m.toNat < 2 ^ 64 := m.isLt
  unfold mi
  generalize m.toNat = x at *
  refine ⟨fun g => ⟨by decide, ?_⟩, fun g => ?_⟩
  · have g : 4294967296 ≤ x := by have := of_decide_eq_true g; omega
    have e : shrOp .u64 (x : Int) 32 = ((x / 4294967296 : Nat) : Int) := by rw [show (32 : Int) = ((32 : Nat) : Int) from rfl, shrN (d := 4294967296) x (by omega) rfl]
    have hs : bitLen x = 32 + bitLen (x / 4294967296) := bitLen_shift x 32 (by omega)
    rw [e]
    have := len0_ok (x := x / 4294967296) (by omega) (n := 32) (by omega) w
    rw [show (32 : Int) + (bitLen (x / 4294967296) : Int) = (bitLen x : Int) by rw [hs]; omega] at this
    exact this
  · have := len0_ok (x := x) (by have := of_decide_eq_false g; omega) (n := 0) (by omega) w
    rw [Int.zero_add] at this
    exact this
theorem mLast_ok (m : BV) (w : World) : Calls Tryd.prog 30 #[.int .u64 (mi m)] w fun e w' => e = .returned (.tuple #[.int .i64 (lastE m).1, .int .i64 (lastE m).2]) ∧ w' = w := by
  refine u30 ?_
  rw [t30]
  refine ⟨fun g => ?_, fun g => ⟨(len_ok m w).mono ?_⟩⟩
  · rw [mi_beq0] at g
    have : m = 0 := by simpa using g
    subst this
    exact ⟨by unfold lastE; rw [cs_zero]; rfl, rfl⟩
  · rw [mi_beq0] at g
    have hm : m ≠ 0 := by simpa using g
    rintro e w' ⟨rfl, rfl⟩
    have h0 : m.toNat ≠ 0 := fun e => hm (BitVec.eq_of_toNat_eq (by rw [e]; rfl))
    obtain ⟨b1, b2⟩ := bitLen_spec m.toNat
    have hp : 0 < bitLen m.toNat := by
      cases hb : bitLen m.toNat with
      | zero => rw [hb] at b1; omega
      | succ n => omega
    have h64 : bitLen m.toNat ≤ 64 := by
      have := b2 h0
      have hx := m.isLt
      have := (Nat.pow_lt_pow_iff_right (a := 2) (by omega)).1 (Nat.lt_of_le_of_lt this hx)
      omega
    refine ⟨_, rfl, ?_, rfl⟩
    rw [len_high (b2 h0) b1 hp, w64 (by omega)]
theorem mList_ok (m : BV) {w : World} (hT : Tab w) : Calls Tryd.prog 33 #[.int .u64 (mi m)] w fun e w' => ∃ p c, e = .returned (.slice p (cs m).length c) ∧ Loc w w' 3 p c (cs m) := by
  refine u33 ?_
  rw [t33]
  refine ⟨WP_loop okProg (M := M33) (σ := BV × List Int × Option Addr × Nat) (fun s => e33_1 (mi s.1) s.2.2.1 s.2.1.length s.2.2.2)
    (fun s w' => s.2.1 ++ cs s.1 = cs m ∧ Loc w w' 3 s.2.2.1 s.2.2.2 s.2.1) (fun s _ => (cs s.1).length) (m, [], none, 0) ⟨rfl, rfl, trivial⟩ ⟨rfl, Loc.nil (Upd.refl _ _) _⟩ ?_⟩
  rintro ⟨a, l, p, c⟩ w1 ⟨h1, hL⟩
  simp only at h1 hL ⊢
  rw [t33_1, mi_bne0, sub1_wrap, bits_and]
  refine ⟨fun g => ⟨(tz_ok a (hT.no hL.U)).mono ?_⟩, fun g => ?_⟩
  · have ha : a ≠ 0 := by simpa using g
    have hc := cs_cons ha
    have hl : l.length ≤ 64 := by have := congrArg List.length h1; have := cs_len m; simp at *; omega
    rintro e w2 ⟨rfl, rfl⟩
    refine ⟨_, rfl, ⟨fun w3 hN => ?_⟩⟩
    obtain ⟨p', c', w4, hr, hL'⟩ := hL.push elI (by omega) hN 23
    refine ⟨p', _, c', w4, hr, (a &&& (a - 1), l ++ [tz a], p', c'), ⟨rfl, rfl, trivial⟩, ⟨by rw [← h1, hc]; simp, hL'⟩, by simp only; rw [hc]; simp⟩
  · have ha : a = 0 := by simpa using g
    subst ha
    rw [cs_zero, List.append_nil] at h1
    subst h1
    exact ⟨p, c, rfl, hL⟩
theorem rList_ok (m : BV) (w : World) : Calls Tryd.prog 36 #[.int .u64 (mi m)] w fun e w' => ∃ p c, e = .returned (.slice p (cs m).length c) ∧ Loc w w' 3 p c (cs m) := by
  refine u36 ?_
  rw [t36]
  refine ⟨WP_loop okProg (M := M36) (σ := Nat × Option Addr × Nat) (fun s => e36_1 (mi m) s.2.1 (upto (hs m) s.1).length s.2.2 s.1)
    (fun s w' => s.1 ≤ 64 ∧ Loc w w' 3 s.2.1 s.2.2 (upto (hs m) s.1)) (fun s _ => 64 - s.1) (0, none, 0) ⟨rfl, rfl, rfl, trivial⟩ ⟨by simp, Loc.nil (Upd.refl _ _) _⟩ ?_⟩
  rintro ⟨i, p, c⟩ w1 ⟨h1, hL⟩
  simp only at h1 hL ⊢
  rw [t36_1]
  have hs1 := upto_succ (hs m) i
  have hb := upto_length (hs m) i
  refine ⟨fun hlt => ⟨(rHas_ok m i w1).mono ?_⟩, fun hge => ?_⟩
  · have hi : i < 64 := by simp at hlt; omega
    rintro e w' ⟨rfl, rfl⟩
    refine ⟨_, rfl, fun hm => ⟨fun w2 hN => ?_⟩, fun hm => ?_⟩
    · obtain ⟨p', c', w3, hr, hL'⟩ := hL.push elI (by omega) hN 23
      rw [if_pos hm] at hs1
      exact ⟨p', _, c', w3, hr, (i + 1, p', c'), ⟨rfl, by rw [hs1]; rfl, by rw [w64 (by omega)]; rfl, trivial⟩, ⟨by simp only; omega, by rw [hs1]; exact hL'⟩, by simp only; omega⟩
    · rw [if_neg (by simp [hm])] at hs1
      exact ⟨(i + 1, p, c), ⟨rfl, by rw [hs1]; rfl, by rw [w64 (by omega)]; rfl, trivial⟩, ⟨by simp only; omega, by rw [hs1]; exact hL⟩, by simp only; omega⟩
  · have : i = 64 := by simp at hge; omega
    subst this
    exact ⟨p, c, rfl, hL⟩
theorem rMany_ok (m : BV) (w : World) : Calls Tryd.prog 34 #[.int .u64 (mi m)] w fun e w' => e = .returned (.int .i64 ((cs m).length : Int)) ∧ Upd no w w' := by
  refine u34 ?_
  rw [t34]
  refine ⟨(rList_ok m w).mono ?_⟩
  rintro e w' ⟨p, c, rfl, hL⟩
  exact ⟨_, _, _, rfl, rfl, hL.U⟩
theorem rFirst_ok (m : BV) (w : World) : Calls Tryd.prog 29 #[.int .u64 (mi m)] w fun e w' => e = .returned (.tuple #[.int .i64 (firstE m).1, .int .i64 (firstE m).2]) ∧ Upd no w w' := by
  refine u29 ?_
  rw [t29]
  refine ⟨(rList_ok m w).mono ?_⟩
  rintro e w' ⟨p, c, rfl, hL⟩
  unfold firstE
  cases hc : cs m with
  | nil => exact ⟨_, _, _, rfl, fun _ => ⟨rfl, hL.U⟩, fun g => by simp at g⟩
  | cons a l =>
    rw [hc] at hL
    obtain ⟨ad, ha, hv⟩ := hL.S.cells.at1 (l := a :: l) (i := 0) (by simp)
    exact ⟨_, _, _, rfl, fun g => absurd (eq_of_beq g) (by simp only [List.length_cons]; omega), fun _ => ⟨⟨by omega, by simp only [List.length_cons]; omega⟩, ad, ha, a, hv, rfl, hL.U⟩⟩
theorem rLast_ok (m : BV) (w : World) : Calls Tryd.prog 31 #[.int .u64 (mi m)] w fun e w' => e = .returned (.tuple #[.int .i64 (lastE m).1, .int .i64 (lastE m).2]) ∧ Upd no w w' := by
  refine u31 ?_
  rw [t31]
  refine ⟨(rList_ok m w).mono ?_⟩
  rintro e w' ⟨p, c, rfl, hL⟩
  have hl := cs_len m
  unfold lastE
  refine ⟨_, _, _, rfl, fun g => ?_, fun g => ?_⟩
  · have : cs m = [] := List.eq_nil_of_length_eq_zero (by have := eq_of_beq g; omega)
    rw [this]
    exact ⟨rfl, hL.U⟩
  · have hp : 0 < (cs m).length := by have := ne_of_beq_false g; omega
    rw [w64 (by omega)]
    have hi : (cs m).length - 1 < (cs m).length := by omega
    obtain ⟨ad, ha, hv⟩ := hL.S.cells.at1 (l := cs m) (i := (cs m).length - 1) hi
    have e : ((((cs m).length : Int) - 1).toNat) = (cs m).length - 1 := by omega
    rw [e]
    refine ⟨⟨by omega, by omega⟩, ad, ha, _, hv, ?_, hL.U⟩
    rw [List.getLast?_eq_getElem?, List.getElem?_eq_getElem hi]
theorem rNext_ok (m : BV) (c : Int) (w : World) : Calls Tryd.prog 32 #[.int .u64 (mi m), .int .i64 c] w fun e w' => e = .returned (.tuple #[.int .i64 (nextE m c).1, .int .i64 (nextE m c).2]) ∧ Upd no w w' := by
  refine u32 ?_
  rw [t32]
  refine ⟨(rList_ok m w).mono ?_⟩
  rintro e w' ⟨p, cp, rfl, hL⟩
  refine ⟨_, _, _, rfl, ⟨WP_loop okProg (M := M32) (σ := Nat) (fun i => e32_1 (mi m) c p (cs m).length cp (i : Int)) (fun i w1 => i ≤ (cs m).length ∧ ((cs m).take i).find? (fun d => decide (d > c)) = none ∧ w1 = w') (fun i _ => (cs m).length - i) 0 ⟨rfl, rfl, rfl, rfl, trivial⟩ ⟨by omega, by simp, rfl⟩ ?_⟩⟩
  rintro i w1 ⟨h1, h2, rfl⟩
  rw [t32_1]
  have hl := cs_len m
  refine ⟨fun g => ?_, fun g => CutD.mk ?_⟩
  · have hi : i < (cs m).length := by simpa using g
    obtain ⟨ad, ha, hv⟩ := hL.S.cells.at1 (l := cs m) hi
    refine ⟨⟨by omega, by omega⟩, ad, ha, _, hv, fun g2 => ⟨⟨by omega, by omega⟩, ad, ha, _, hv, ?_, hL.U⟩, fun g2 => ?_⟩
    · have e : (cs m).find? (fun d => decide (d > c)) = some (cs m)[i] := by
        conv => lhs; rw [← List.take_append_drop i (cs m)]
        rw [List.find?_append, h2, List.drop_eq_getElem_cons hi, List.find?_cons_of_pos (p := fun d => decide (d > c)) g2]
        rfl
      unfold nextE
      rw [e]
    · refine ⟨i + 1, ⟨rfl, rfl, rfl, by rw [w64 (by omega)]; rfl, trivial⟩, ⟨by omega, ?_, rfl⟩, by omega⟩
      rw [List.take_succ_eq_append_getElem hi, List.find?_append, h2]
      simp
      have := of_decide_eq_false g2
      omega
  · have : i = (cs m).length := by simp at g; omega
    subst this
    rw [List.take_length] at h2
    rw [t32_0]
    refine ⟨(rFirst_ok m w1).mono ?_⟩
    rintro e w2 ⟨rfl, hU⟩
    refine ⟨_, _, rfl, ?_, hL.U.and hU⟩
    unfold nextE
    rw [h2]
end Go.Dav
