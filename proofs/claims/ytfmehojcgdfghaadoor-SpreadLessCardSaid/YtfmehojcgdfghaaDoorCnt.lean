/- A mask's cores as a list: the lowest, the greatest, how many; the library's words on them. -/
import Derived.Test.YtfmehojcgdfghaaDoorBits
set_option linter.unusedSimpArgs false
set_option linter.unusedVariables false
namespace Go.Dav

/-- A mask's cores, rising. -/
def cs (m : BV) : List Int := upto (hs m) 64

theorem upto_congr {p q : Int → Bool} {n : Nat} (h : ∀ c : Int, 0 ≤ c → c < n → p c = q c) : upto p n = upto q n := by
  unfold upto
  apply List.filter_congr
  intro x hx
  obtain ⟨i, hi, rfl⟩ := List.mem_map.1 hx
  rw [List.mem_range] at hi
  exact h _ (by omega) (by omega)
theorem upto_nil {p : Int → Bool} {n : Nat} (h : ∀ c : Int, 0 ≤ c → c < n → p c = false) : upto p n = [] := by
  rw [upto_congr (q := fun _ => false) h]
  unfold upto
  simp
theorem mem_cs {m : BV} {c : Int} : c ∈ cs m ↔ hs m c = true := by
  unfold cs
  rw [mem_upto]
  exact ⟨fun h => h.2.2, fun h => ⟨(hs_in h).1, (hs_in h).2, h⟩⟩
theorem cs_zero : cs 0 = [] := upto_nil fun c _ _ => hs_zero c
theorem cs_len (m : BV) : (cs m).length ≤ 64 := upto_length _ _
theorem ofL_cs (m : BV) : ofL (cs m) = m := ext_hs fun c h0 h1 => by
  unfold cs
  rw [hs_ofL_upto]
  simp [h0, h1]
theorem cs_inj {a b : BV} (h : cs a = cs b) : a = b := by rw [← ofL_cs a, h, ofL_cs]
theorem cs_nil {m : BV} : cs m = [] ↔ m = 0 := ⟨fun h => cs_inj (h.trans cs_zero.symm), fun h => h ▸ cs_zero⟩

/-- The lowest one goes ahead. -/
theorem upto_low {p : Int → Bool} {k : Nat} (h1 : p k = true) (h2 : ∀ j : Int, 0 ≤ j → j < k → p j = false) : ∀ n, k < n → upto p n = (k : Int) :: upto (fun c => p c && !decide (c = (k : Int))) n := by
  intro n hn
  induction n with
  | zero => omega
  | succ n ih =>
    rw [upto_succ, upto_succ]
    by_cases hk : k = n
    · subst hk
      rw [if_pos h1, upto_nil h2, upto_nil (p := fun c => p c && !decide (c = (k : Int))) (fun c h0 hc => by simp [h2 c h0 hc])]
      simp
    · rw [ih (by omega)]
      have : (decide ((n : Int) = (k : Int))) = false := by simp; omega
      simp only [this, Bool.not_false, Bool.and_true]
      by_cases hp : p n = true
      · simp [hp]
      · simp [hp]
theorem cs_low {m : BV} {k : Nat} (hk : k < 64) (h1 : hs m k = true) (h2 : ∀ j : Int, j < k → hs m j = false) : cs m = (k : Int) :: cs (ls m k) := by
  have := upto_low (p := hs m) h1 (fun j _ hj => h2 j hj) 64 hk
  unfold cs
  rw [this]
  congr 1
  exact upto_congr fun c _ _ => (hs_ls m k c).symm
/-- The greatest one stands at the end. -/
theorem upto_high {p : Int → Bool} {k : Nat} (h1 : p k = true) : ∀ n, k < n → (∀ j : Int, (k : Int) < j → j < n → p j = false) → upto p n = upto (fun c => p c && !decide (c = (k : Int))) n ++ [(k : Int)] := by
  intro n hn h2
  induction n with
  | zero => omega
  | succ n ih =>
    rw [upto_succ, upto_succ]
    by_cases hk : k = n
    · subst hk
      rw [if_pos h1]
      simp
      exact upto_congr fun c _ hc => by have : c ≠ (k : Int) := by omega
                                        simp [this]
    · rw [ih (by omega) (fun j h3 h4 => h2 j h3 (by omega))]
      have : p (n : Int) = false := h2 _ (by omega) (by omega)
      simp [this]
theorem cs_high {m : BV} {k : Nat} (hk : k < 64) (h1 : hs m k = true) (h2 : ∀ j : Int, (k : Int) < j → hs m j = false) : cs m = cs (ls m k) ++ [(k : Int)] := by
  have := upto_high (p := hs m) h1 64 hk (fun j hj _ => h2 j hj)
  unfold cs
  rw [this]
  congr 1
  exact upto_congr fun c _ _ => (hs_ls m k c).symm

theorem low_ex {m : BV} (h : m ≠ 0) : ∃ k : Nat, k < 64 ∧ hs m k = true ∧ ∀ j : Int, j < k → hs m j = false := by
  have h0 : ∃ k : Nat, hs m k = true := Classical.byContradiction fun hn => h (ext_hs fun c h0 _ => by
    rw [hs_zero]
    have := not_exists.1 hn c.toNat
    rw [show ((c.toNat : Nat) : Int) = c by omega] at this
    simpa using this)
  obtain ⟨k, h1, h2⟩ := exists_min h0
  refine ⟨k, by have := hs_in h1; omega, h1, fun j hj => ?_⟩
  by_cases hj0 : 0 ≤ j
  · cases hh : hs m j with
    | false => rfl
    | true => have := h2 j.toNat (by rw [show ((j.toNat : Nat) : Int) = j by omega]; exact hh); omega
  · exact hs_range (by omega)

theorem bt_up (k : Nat) (h : k < 64) : bt k = upM k + 1 := by
  have h1 : (2 : Nat) ^ k < 2 ^ 64 := Nat.pow_lt_pow_right (by omega) (by omega)
  have h2 : 0 < (2 : Nat) ^ k := Nat.pow_pos (by omega)
  apply BitVec.eq_of_toNat_eq
  rw [bt_in (by omega), BitVec.toNat_twoPow, BitVec.toNat_add]
  unfold upM
  rw [BitVec.toNat_ofNat]
  have e : min (k : Int).toNat 64 = k := by omega
  rw [e, show ((k : Int).toNat) = k by omega]
  have e1 : (1 : BV).toNat = 1 := rfl
  rw [e1]
  generalize (2 : Nat) ^ k = x at *
  rw [Nat.mod_eq_of_lt h1, Nat.mod_eq_of_lt (show x - 1 < 2 ^ 64 by omega), Nat.mod_eq_of_lt (by omega)]
  omega
theorem ls_add {m : BV} {c : Int} (hm : hs m c = true) : ls m c + bt c = m := by
  have h := hs_in hm
  have e0 : ls m c &&& bt c = 0 := eq_zero_of fun d => by
    rw [hs_and, hs_ls, hs_bt]; by_cases hd : d = c <;> simp [hd]
  rw [BitVec.add_eq_or_of_and_eq_zero _ _ e0]
  apply ext_hs
  intro d _ _
  rw [hs_or, hs_ls, hs_bt]
  by_cases hd : d = c
  · subst hd; simp [hm, h]
  · simp [hd]
section
variable {m : BV} {k : Nat} (hk : k < 64) (h1 : hs m k = true) (h2 : ∀ j : Int, j < k → hs m j = false)
include hk h1 h2
theorem low_sub : m - 1 = ls m k ||| upM k := by
  have e : ls m k &&& upM k = 0 := eq_zero_of fun d => by
    rw [hs_and, hs_ls, hs_upM]
    by_cases hd : d < k
    · simp [h2 d hd]
    · simp [hd]
  have h := ls_add h1
  rw [bt_up k hk, ← BitVec.add_assoc] at h
  rw [← BitVec.add_eq_or_of_and_eq_zero _ _ e]
  generalize ls m k + upM k = u at h ⊢
  rw [← h]
  exact BitVec.add_sub_cancel _ _
/-- Without its lowest one. -/
theorem low_and : m &&& (m - 1) = ls m k := by
  rw [low_sub hk h1 h2]
  apply ext_hs
  intro d _ _
  rw [hs_and, hs_or, hs_ls, hs_upM]
  by_cases hd : d < k
  · simp [h2 d hd]
  · simp [hd]
theorem low_neg : m &&& (-m) = bt k := by
  have e : -m = ~~~(m - 1) := by
    apply BitVec.eq_of_toNat_eq
    rw [BitVec.toNat_neg, BitVec.toNat_not, BitVec.toNat_sub]
    have := m.isLt
    have e1 : (1 : BV).toNat = 1 := rfl
    rw [e1]
    generalize m.toNat = x at *
    omega
  rw [e, low_sub hk h1 h2]
  apply ext_hs
  intro d h0 h64
  rw [hs_not, hs_or, hs_ls, hs_upM, hs_bt]
  by_cases hd : d = k
  · subst hd; simp [h1, h0, h64]
  · by_cases hd2 : d < k
    · simp [h2 d hd2, hd]
    · simp [hd, hd2]
end

theorem neg_wrap (m : BV) : IntKind.wrap .u64 (0 - mi m) = mi (-m) := by
  rw [wrapu_mod]
  unfold mi
  rw [BitVec.toNat_neg]
  have := m.isLt
  omega
theorem sub1_wrap (m : BV) : IntKind.wrap .u64 (mi m - 1) = mi (m - 1) := by
  rw [wrapu_mod]
  unfold mi
  rw [BitVec.toNat_sub]
  have := m.isLt
  have e1 : (1 : BV).toNat = 1 := rfl
  rw [e1]
  omega
theorem not_bits (m : BV) : bitsOp .xor .u64 18446744073709551615 (mi m) = mi (~~~ m) := by
  have : (18446744073709551615 : Int) = mi (BitVec.allOnes 64) := by decide +kernel
  rw [this, bits_xor, BitVec.allOnes_xor]

/-- Trailing zeros. -/
def tz (m : BV) : Int := match cs m with | [] => 64 | a :: _ => a
theorem tz_zero : tz 0 = 64 := by rw [tz, cs_zero]
theorem tz_low {m : BV} {k : Nat} (hk : k < 64) (h1 : hs m k = true) (h2 : ∀ j : Int, j < k → hs m j = false) : tz m = k := by rw [tz, cs_low hk h1 h2]
theorem cs_cons {m : BV} (h : m ≠ 0) : cs m = tz m :: cs (m &&& (m - 1)) := by
  obtain ⟨k, hk, h1, h2⟩ := low_ex h
  rw [low_and hk h1 h2, tz_low hk h1 h2]
  exact cs_low hk h1 h2
theorem tz_in {m : BV} (h : m ≠ 0) : hs m (tz m) = true := by
  obtain ⟨k, hk, h1, h2⟩ := low_ex h
  rw [tz_low hk h1 h2]; exact h1
theorem tz_le (m : BV) : 0 ≤ tz m ∧ tz m ≤ 64 := by
  by_cases h : m = 0
  · subst h; rw [tz_zero]; omega
  · have := hs_in (tz_in h); omega
theorem tz_lt {m : BV} : tz m < 64 ↔ m ≠ 0 := by
  constructor
  · rintro h rfl; rw [tz_zero] at h; omega
  · intro h; exact (hs_in (tz_in h)).2

/-- The place in the library's table of what the lowest bit comes to. -/
def dbp (k : Nat) : Int := shrOp .u64 (IntKind.wrap .u64 (mi (bt k) * 285870213051353865)) 58
def dbt : List Nat := [0, 1, 56, 2, 57, 49, 28, 3, 61, 58, 42, 50, 38, 29, 17, 4, 62, 47, 59, 36, 45, 43, 51, 22, 53, 39, 33, 30, 24, 18, 12, 5, 63, 55, 48, 27, 60, 41, 37, 16, 46, 35, 44, 21, 52, 32, 23, 11, 54, 26, 40, 15, 34, 20, 31, 10, 25, 14, 19, 9, 13, 8, 7, 6]
theorem dbp_ok : ∀ k : Nat, k < 64 → 0 ≤ dbp k ∧ dbp k < 64 ∧ dbt[(dbp k).toNat]? = some k := by decide +kernel
end Go.Dav
