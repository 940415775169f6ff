/- Masks of cores as vectors of 64 bits: what the language's operations on them come to. -/
import Derived.Test.YtfmehojcgdfghaaDoorOwn
set_option linter.unusedSimpArgs false
set_option linter.unusedVariables false
namespace Go.Dav

abbrev BV := BitVec 64
def mi (m : BV) : Int := (m.toNat : Int)
def bt (c : Int) : BV := if 0 ≤ c ∧ c < 64 then BitVec.twoPow 64 c.toNat else 0
/-- Is the core c in the mask m? -/
def hs (m : BV) (c : Int) : Bool := decide (0 ≤ c ∧ c < 64) && m.getLsbD c.toNat
def wi (m : BV) (c : Int) : BV := m ||| bt c
def ls (m : BV) (c : Int) : BV := m &&& ~~~ bt c

theorem mi_nonneg (m : BV) : 0 ≤ mi m := by unfold mi; omega
theorem mi_lt (m : BV) : mi m < 18446744073709551616 := by unfold mi; have := m.isLt; omega
theorem mi_inj {a b : BV} : mi a = mi b ↔ a = b := by
  unfold mi
  rw [Int.ofNat_inj]
  exact BitVec.toNat_inj
theorem mi_beq (a b : BV) : (mi a == mi b) = (a == b) := by
  rw [Bool.eq_iff_iff]
  simp [mi_inj]
theorem mi_zero : mi 0 = 0 := rfl
theorem mi_beq0 (a : BV) : (mi a == 0) = (a == 0) := by rw [← mi_zero, mi_beq]
theorem mi_bne0 (a : BV) : (mi a != 0) = !(a == 0) := by rw [bne, mi_beq0]

theorem of_wf {n : Int} (h : (Lit.int .u64 n).wf = true) : ∃ m : BV, n = mi m := by
  have : 0 ≤ n ∧ n ≤ 18446744073709551615 := by simpa [Lit.wf, IntKind.min, IntKind.max, IntKind.signed, IntKind.bits] using h
  refine ⟨BitVec.ofInt 64 n, ?_⟩
  unfold mi
  rw [BitVec.toNat_ofInt]
  omega

theorem wrapu {x : Int} (h : 0 ≤ x ∧ x ≤ 18446744073709551615) : IntKind.wrap .u64 x = x := by
  have e : (2 ^ IntKind.u64.bits : Int) = 18446744073709551616 := by decide
  unfold IntKind.wrap
  simp only [e, IntKind.signed, Bool.false_and]
  simp
  omega

theorem wrapu_mod (x : Int) : IntKind.wrap .u64 x = x % 18446744073709551616 := by
  have e : (2 ^ IntKind.u64.bits : Int) = 18446744073709551616 := by decide
  unfold IntKind.wrap
  simp only [e, IntKind.signed, Bool.false_and]
  simp

theorem ofInt_mi (m : BV) : BitVec.ofInt 64 (mi m) = m := by
  unfold mi
  apply BitVec.eq_of_toNat_eq
  rw [BitVec.toNat_ofInt]
  have := m.isLt
  omega
theorem wrap_nat (m : BV) : IntKind.wrap .u64 (m.toNat : Int) = mi m := by
  rw [wrapu (by have := m.isLt; omega)]
  rfl

theorem bits_and (a b : BV) : bitsOp .and .u64 (mi a) (mi b) = mi (a &&& b) := by
  show IntKind.wrap .u64 ((BitVec.ofInt 64 (mi a) &&& BitVec.ofInt 64 (mi b)).toNat : Int) = _
  rw [ofInt_mi, ofInt_mi, wrap_nat]
theorem bits_or (a b : BV) : bitsOp .or .u64 (mi a) (mi b) = mi (a ||| b) := by
  show IntKind.wrap .u64 ((BitVec.ofInt 64 (mi a) ||| BitVec.ofInt 64 (mi b)).toNat : Int) = _
  rw [ofInt_mi, ofInt_mi, wrap_nat]
theorem bits_not (a b : BV) : bitsOp .andNot .u64 (mi a) (mi b) = mi (a &&& ~~~ b) := by
  show IntKind.wrap .u64 ((BitVec.ofInt 64 (mi a) &&& ~~~ BitVec.ofInt 64 (mi b)).toNat : Int) = _
  rw [ofInt_mi, ofInt_mi, wrap_nat]
theorem bits_xor (a b : BV) : bitsOp .xor .u64 (mi a) (mi b) = mi (a ^^^ b) := by
  show IntKind.wrap .u64 ((BitVec.ofInt 64 (mi a) ^^^ BitVec.ofInt 64 (mi b)).toNat : Int) = _
  rw [ofInt_mi, ofInt_mi, wrap_nat]

theorem bt_in {c : Int} (h : 0 ≤ c ∧ c < 64) : bt c = BitVec.twoPow 64 c.toNat := if_pos h
theorem bt_out {c : Int} (h : ¬ (0 ≤ c ∧ c < 64)) : bt c = 0 := if_neg h
theorem mi_bt {c : Int} (h : 0 ≤ c ∧ c < 64) : mi (bt c) = 2 ^ c.toNat := by
  have h2 : (2 : Nat) ^ c.toNat < 2 ^ 64 := Nat.pow_lt_pow_right (by omega) (by omega)
  rw [bt_in h, mi, BitVec.toNat_twoPow, Nat.mod_eq_of_lt h2]
  simp
theorem shl_one {c : Int} (h : 0 ≤ c ∧ c < 64) : shlOp .u64 1 c = mi (bt c) := by
  have h2 : (2 : Nat) ^ c.toNat < 2 ^ 64 := Nat.pow_lt_pow_right (by omega) (by omega)
  rw [mi_bt h]
  unfold shlOp
  have : min c.toNat IntKind.u64.bits = c.toNat := Nat.min_eq_left (by show c.toNat ≤ 64; omega)
  rw [this, Int.one_mul, wrapu]
  have e : ((2 : Int) ^ c.toNat) = ((2 ^ c.toNat : Nat) : Int) := by simp
  rw [e]
  generalize 2 ^ c.toNat = x at h2
  omega

theorem getLsbD_bt {c : Int} (h : 0 ≤ c ∧ c < 64) (i : Nat) : (bt c).getLsbD i = decide (i = c.toNat) := by
  rw [bt_in h, BitVec.getLsbD_twoPow]
  by_cases hi : i = c.toNat
  · subst hi; simp; omega
  · simp [hi, eq_comm]

theorem ext_hs {a b : BV} (h : ∀ c : Int, 0 ≤ c → c < 64 → hs a c = hs b c) : a = b := by
  apply BitVec.eq_of_getLsbD_eq
  intro i hi
  have := h i (by omega) (by omega)
  have hd : decide (0 ≤ (i : Int) ∧ (i : Int) < 64) = true := decide_eq_true ⟨by omega, by omega⟩
  unfold hs at this
  rw [hd] at this
  simpa using this

theorem hs_in {m : BV} {c : Int} (h : hs m c = true) : 0 ≤ c ∧ c < 64 := by
  unfold hs at h
  rw [Bool.and_eq_true, decide_eq_true_iff] at h
  exact h.1
theorem hs_zero (c : Int) : hs 0 c = false := by unfold hs; simp
theorem hs_and (a b : BV) (c : Int) : hs (a &&& b) c = (hs a c && hs b c) := by
  unfold hs
  rw [BitVec.getLsbD_and]
  cases decide (0 ≤ c ∧ c < 64) <;> simp
theorem hs_or (a b : BV) (c : Int) : hs (a ||| b) c = (hs a c || hs b c) := by
  unfold hs
  rw [BitVec.getLsbD_or]
  cases decide (0 ≤ c ∧ c < 64) <;> simp
theorem hs_not (a b : BV) (c : Int) : hs (a &&& ~~~ b) c = (hs a c && !hs b c) := by
  unfold hs
  rw [BitVec.getLsbD_and, BitVec.getLsbD_not]
  by_cases h : 0 ≤ c ∧ c < 64
  · have : c.toNat < 64 := by omega
    simp [h, this]
  · simp [h]
theorem hs_bt (c d : Int) : hs (bt c) d = (decide (0 ≤ c ∧ c < 64) && decide (d = c)) := by
  by_cases h : 0 ≤ c ∧ c < 64
  · unfold hs
    rw [getLsbD_bt h, Bool.eq_iff_iff]
    simp only [Bool.and_eq_true, decide_eq_true_iff]
    omega
  · rw [bt_out h, hs_zero]; simp [h]
theorem hs_wi (m : BV) (c d : Int) : hs (wi m c) d = (hs m d || (decide (0 ≤ c ∧ c < 64) && decide (d = c))) := by rw [wi, hs_or, hs_bt]
theorem hs_ls (m : BV) (c d : Int) : hs (ls m c) d = (hs m d && !(decide (d = c))) := by
  rw [ls, hs_not, hs_bt]
  by_cases hd : d = c
  · subst hd
    by_cases h : 0 ≤ d ∧ d < 64
    · simp [h]
    · have : hs m d = false := by unfold hs; simp [h]
      simp [this]
  · simp [hd]

theorem eq_zero_of {m : BV} (h : ∀ c, hs m c = false) : m = 0 := ext_hs fun c _ _ => by rw [h, hs_zero]

/-- A mask met with one core's. -/
theorem and_bt (m : BV) (c : Int) : (!((m &&& bt c) == 0)) = hs m c := by
  cases hh : hs m c with
  | true =>
    have : m &&& bt c ≠ 0 := fun e => by
      have h1 : hs (m &&& bt c) c = true := by rw [hs_and, hs_bt, hh]; simp [hs_in hh]
      rw [e, hs_zero] at h1; cases h1
    rw [beq_false_of_ne this]
    rfl
  | false =>
    have : m &&& bt c = 0 := eq_zero_of fun d => by
      rw [hs_and, hs_bt]
      by_cases hd : d = c
      · subst hd; simp [hh]
      · simp [hd]
    rw [this]
    rfl

theorem shr_mod {m : BV} {c : Int} (h : 0 ≤ c ∧ c < 64) : (Int.tmod (shrOp .u64 (mi m) c) 2 == 1) = hs m c := by
  have e1 : min c.toNat IntKind.u64.bits = c.toNat := Nat.min_eq_left (by show c.toNat ≤ 64; omega)
  unfold shrOp mi
  rw [e1, show ((2 : Int) ^ c.toNat) = ((2 ^ c.toNat : Nat) : Int) by simp]
  rw [Int.fdiv_eq_ediv_of_nonneg _ (Int.natCast_nonneg _), ← Int.natCast_ediv]
  have e2 : (2 : Int) = ((2 : Nat) : Int) := rfl
  rw [e2, Int.tmod_eq_emod_of_nonneg (Int.natCast_nonneg _), ← Int.natCast_emod]
  unfold hs
  simp only [h, and_self, decide_true, Bool.true_and]
  rw [BitVec.getLsbD, Nat.testBit_eq_decide_div_mod_eq, Bool.eq_iff_iff]
  generalize m.toNat / 2 ^ c.toNat % 2 = x
  simp
  omega

theorem wrap_add_bt {m : BV} {c : Int} (hm : hs m c = false) : IntKind.wrap .u64 (mi m + mi (bt c)) = mi (wi m c) := by
  have hd : m &&& bt c = 0 := by have := and_bt m c; rw [hm] at this; simpa using this
  have e : m + bt c = m ||| bt c := BitVec.add_eq_or_of_and_eq_zero m (bt c) hd
  rw [wi, ← e, wrapu_mod]
  unfold mi
  rw [BitVec.toNat_add]
  omega
theorem wrap_sub_bt {m : BV} {c : Int} (hm : hs m c = true) : IntKind.wrap .u64 (mi m - mi (bt c)) = mi (ls m c) := by
  have h := hs_in hm
  have e0 : ls m c &&& bt c = 0 := eq_zero_of fun d => by
    rw [hs_and, hs_ls, hs_bt]; by_cases hd : d = c <;> simp [hd]
  have e1 : ls m c + bt c = m := by
    rw [BitVec.add_eq_or_of_and_eq_zero _ _ e0]
    apply ext_hs
    intro d _ _
    rw [hs_or, hs_ls, hs_bt]
    by_cases hd : d = c
    · subst hd; simp [hm, h]
    · simp [hd]
  have hle : (bt c).toNat ≤ m.toNat := by
    have h1 : m.toNat.testBit c.toNat = true := by
      have := hm
      unfold hs at this
      rw [Bool.and_eq_true] at this
      exact this.2
    have h2 := Nat.ge_two_pow_of_testBit h1
    have h3 := mi_bt h
    unfold mi at h3
    have : ((bt c).toNat : Int) = ((2 ^ c.toNat : Nat) : Int) := by rw [h3]; simp
    omega
  have e2 : ls m c = m - bt c := by
    have := congrArg (· - bt c) e1
    simpa [BitVec.add_sub_cancel] using this
  rw [e2, wrapu]
  · unfold mi
    rw [BitVec.toNat_sub_of_le (by rw [BitVec.le_def]; exact hle)]
    omega
  · unfold mi
    have := m.isLt
    omega

/-- Some cores. -/
def ofL (l : List Int) : BV := l.foldl wi 0
theorem hs_foldl (l : List Int) (m : BV) (c : Int) : hs (l.foldl wi m) c = (hs m c || (decide (0 ≤ c ∧ c < 64) && decide (c ∈ l))) := by
  induction l generalizing m with
  | nil => simp
  | cons x l ih =>
    rw [List.foldl_cons, ih, hs_wi]
    by_cases h : c = x
    · subst h; cases hs m c <;> cases decide (0 ≤ c ∧ c < 64) <;> simp
    · simp [h]
theorem hs_ofL (l : List Int) (c : Int) : hs (ofL l) c = (decide (0 ≤ c ∧ c < 64) && decide (c ∈ l)) := by rw [ofL, hs_foldl, hs_zero]; simp

/-- The cores below n that are as asked for, rising. -/
def upto (p : Int → Bool) (n : Nat) : List Int := ((List.range n).map (fun (i : Nat) => (i : Int))).filter p
theorem upto_zero (p : Int → Bool) : upto p 0 = [] := rfl
theorem upto_succ (p : Int → Bool) (n : Nat) : upto p (n + 1) = if p n then upto p n ++ [(n : Int)] else upto p n := by
  unfold upto
  rw [List.range_succ, List.map_append, List.filter_append]
  cases h : p n <;> simp [h]
theorem mem_upto {p : Int → Bool} {n : Nat} {c : Int} : c ∈ upto p n ↔ 0 ≤ c ∧ c < n ∧ p c = true := by
  unfold upto
  rw [List.mem_filter, List.mem_map]
  constructor
  · rintro ⟨⟨a, ha, rfl⟩, hp⟩
    rw [List.mem_range] at ha
    exact ⟨by omega, by omega, hp⟩
  · rintro ⟨h1, h2, hp⟩
    exact ⟨⟨c.toNat, List.mem_range.2 (by omega), by omega⟩, hp⟩
theorem upto_length (p : Int → Bool) (n : Nat) : (upto p n).length ≤ n := by
  unfold upto
  exact Nat.le_trans (List.length_filter_le ..) (by simp)
theorem hs_ofL_upto (p : Int → Bool) (c : Int) : hs (ofL (upto p 64)) c = (decide (0 ≤ c ∧ c < 64) && p c) := by
  rw [hs_ofL, Bool.eq_iff_iff]
  simp only [Bool.and_eq_true, decide_eq_true_iff, mem_upto]
  constructor
  · rintro ⟨h, _, _, hp⟩; exact ⟨h, hp⟩
  · rintro ⟨h, hp⟩; exact ⟨h, h.1, by omega, hp⟩
theorem hs_range {m : BV} {c : Int} (h : ¬ (0 ≤ c ∧ c < 64)) : hs m c = false := by unfold hs; simp [h]

/-- The first n cores. -/
def upM (n : Int) : BV := BitVec.ofNat 64 (2 ^ (min n.toNat 64) - 1)
theorem hs_upM (n c : Int) : hs (upM n) c = (decide (0 ≤ c ∧ c < 64) && decide (c < n)) := by
  unfold hs upM
  rw [BitVec.getLsbD_ofNat, Nat.testBit_two_pow_sub_one]
  by_cases h : 0 ≤ c ∧ c < 64
  · have : c.toNat < 64 := by omega
    simp only [h, this, and_self, decide_true, Bool.true_and]
    rw [Bool.eq_iff_iff]
    simp only [decide_eq_true_iff]
    omega
  · simp [h]
theorem mi_upM (n : Int) : mi (upM n) = 2 ^ (min n.toNat 64) - 1 := by
  have h2 : 0 < (2 : Nat) ^ (min n.toNat 64) := Nat.pow_pos (by omega)
  have h3 : (2 : Nat) ^ (min n.toNat 64) ≤ 2 ^ 64 := Nat.pow_le_pow_right (by omega) (by omega)
  have e : ((2 : Int) ^ (min n.toNat 64)) = ((2 ^ (min n.toNat 64) : Nat) : Int) := by simp
  unfold mi upM
  rw [BitVec.toNat_ofNat, e]
  generalize (2 : Nat) ^ (min n.toNat 64) = x at *
  rw [Nat.mod_eq_of_lt (by omega)]
  omega
theorem upM_succ (k : Nat) (h : k < 64) : wi (upM k) k = upM ((k : Int) + 1) := ext_hs fun d h0 h64 => by
  rw [hs_wi, hs_upM, hs_upM, Bool.eq_iff_iff]
  simp only [Bool.or_eq_true, Bool.and_eq_true, decide_eq_true_iff]
  omega

/-- Can the mask be, of so many cores? -/
def rightR (n : Int) (m : BV) : Bool := !(m == 0) && ((m &&& ~~~ upM n) == 0)

/-! ### Flat records of the statements -/

def recIB (x : Int × Bool) : List Value := [.int .i64 x.1, .bool x.2]
def okIB (x : Int × Bool) : Prop := (Lit.int .i64 x.1).wf = true
theorem recIB_len (x : Int × Bool) : (recIB x).length = 2 := rfl

def recII (x : Int × Int) : List Value := [.int .i64 x.1, .int .i64 x.2]
def okII (x : Int × Int) : Prop := (Lit.int .i64 x.1).wf = true ∧ (Lit.int .i64 x.2).wf = true
theorem recII_len (x : Int × Int) : (recII x).length = 2 := rfl

def recIII (x : Int × Int × Int) : List Value := [.int .i64 x.1, .int .i64 x.2.1, .int .i64 x.2.2]
def okIII (x : Int × Int × Int) : Prop := (Lit.int .i64 x.1).wf = true ∧ (Lit.int .i64 x.2.1).wf = true ∧ (Lit.int .i64 x.2.2).wf = true
theorem recIII_len (x : Int × Int × Int) : (recIII x).length = 3 := rfl

def recIIII (x : Int × Int × Int × Int) : List Value := [.int .i64 x.1, .int .i64 x.2.1, .int .i64 x.2.2.1, .int .i64 x.2.2.2]
def okIIII (x : Int × Int × Int × Int) : Prop := (Lit.int .i64 x.1).wf = true ∧ (Lit.int .i64 x.2.1).wf = true ∧ (Lit.int .i64 x.2.2.1).wf = true ∧ (Lit.int .i64 x.2.2.2).wf = true
theorem recIIII_len (x : Int × Int × Int × Int) : (recIIII x).length = 4 := rfl

def recIIIII (x : Int × Int × Int × Int × Int) : List Value := [.int .i64 x.1, .int .i64 x.2.1, .int .i64 x.2.2.1, .int .i64 x.2.2.2.1, .int .i64 x.2.2.2.2]
def okIIIII (x : Int × Int × Int × Int × Int) : Prop := (Lit.int .i64 x.1).wf = true ∧ (Lit.int .i64 x.2.1).wf = true ∧ (Lit.int .i64 x.2.2.1).wf = true ∧ (Lit.int .i64 x.2.2.2.1).wf = true ∧ (Lit.int .i64 x.2.2.2.2).wf = true
theorem recIIIII_len (x : Int × Int × Int × Int × Int) : (recIIIII x).length = 5 := rfl

def recIIU (x : Int × Int × BV) : List Value := [.int .i64 x.1, .int .i64 x.2.1, .int .u64 (mi x.2.2)]
def okIIU (x : Int × Int × BV) : Prop := (Lit.int .i64 x.1).wf = true ∧ (Lit.int .i64 x.2.1).wf = true
theorem recIIU_len (x : Int × Int × BV) : (recIIU x).length = 3 := rfl

def recIIB (x : Int × Int × Bool) : List Value := [.int .i64 x.1, .int .i64 x.2.1, .bool x.2.2]
def okIIB (x : Int × Int × Bool) : Prop := (Lit.int .i64 x.1).wf = true ∧ (Lit.int .i64 x.2.1).wf = true
theorem recIIB_len (x : Int × Int × Bool) : (recIIB x).length = 3 := rfl

def recIIIUIB (x : Int × Int × Int × BV × Int × Bool) : List Value := [.int .i64 x.1, .int .i64 x.2.1, .int .i64 x.2.2.1, .int .u64 (mi x.2.2.2.1), .int .i64 x.2.2.2.2.1, .bool x.2.2.2.2.2]
def okIIIUIB (x : Int × Int × Int × BV × Int × Bool) : Prop := (Lit.int .i64 x.1).wf = true ∧ (Lit.int .i64 x.2.1).wf = true ∧ (Lit.int .i64 x.2.2.1).wf = true ∧ (Lit.int .i64 x.2.2.2.2.1).wf = true
theorem recIIIUIB_len (x : Int × Int × Int × BV × Int × Bool) : (recIIIUIB x).length = 6 := rfl

def recIUIB (x : Int × BV × Int × Bool) : List Value := [.int .i64 x.1, .int .u64 (mi x.2.1), .int .i64 x.2.2.1, .bool x.2.2.2]
def okIUIB (x : Int × BV × Int × Bool) : Prop := (Lit.int .i64 x.1).wf = true ∧ (Lit.int .i64 x.2.2.1).wf = true
theorem recIUIB_len (x : Int × BV × Int × Bool) : (recIUIB x).length = 4 := rfl

def recIIIUI (x : Int × Int × Int × BV × Int) : List Value := [.int .i64 x.1, .int .i64 x.2.1, .int .i64 x.2.2.1, .int .u64 (mi x.2.2.2.1), .int .i64 x.2.2.2.2]
def okIIIUI (x : Int × Int × Int × BV × Int) : Prop := (Lit.int .i64 x.1).wf = true ∧ (Lit.int .i64 x.2.1).wf = true ∧ (Lit.int .i64 x.2.2.1).wf = true ∧ (Lit.int .i64 x.2.2.2.2).wf = true
theorem recIIIUI_len (x : Int × Int × Int × BV × Int) : (recIIIUI x).length = 5 := rfl

end Go.Dav
