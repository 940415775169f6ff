/- How many cores a mask has, as the library reckons it. -/
import Derived.Test.YtfmehojcgdfghaaDoorCnt
set_option linter.unusedSimpArgs false
set_option linter.unusedVariables false
namespace Go.Dav

/-- How many of the low n bits. -/
def pcN (n x : Nat) : Nat := ((List.range n).filter (fun i => x.testBit i)).length
theorem pcN_add (a b x : Nat) : pcN (a + b) x = pcN a x + pcN b (x / 2 ^ a) := by
  unfold pcN
  rw [List.range_add, List.filter_append, List.length_append, List.filter_map, List.length_map]
  congr 2
  apply List.filter_congr
  intro i _
  simp [Nat.testBit_div_two_pow, Nat.add_comm]
theorem pcN_mod (n x : Nat) : pcN n x = pcN n (x % 2 ^ n) := by
  unfold pcN
  congr 1
  apply List.filter_congr
  intro i hi
  rw [List.mem_range] at hi
  simp [Nat.testBit_mod_two_pow, hi]
theorem cs_pc (m : BV) : (cs m).length = pcN 64 m.toNat := by
  unfold cs upto pcN
  rw [List.filter_map, List.length_map]
  refine congrArg List.length (List.filter_congr fun i hi => ?_)
  rw [List.mem_range] at hi
  show hs m (i : Int) = _
  unfold hs
  have : decide (0 ≤ (i : Int) ∧ (i : Int) < 64) = true := decide_eq_true ⟨by omega, by omega⟩
  rw [this]
  simp [BitVec.getLsbD]

/-- Bytes, the lowest ahead. -/
def val8 : List Nat → Nat
  | [] => 0
  | b :: l => b + 256 * val8 l
def bytes8 : Nat → Nat → List Nat
  | 0, _ => []
  | n + 1, x => x % 256 :: bytes8 n (x / 256)
theorem val_bytes : ∀ n x, x < 256 ^ n → val8 (bytes8 n x) = x
  | 0, x, h => by simp at h; subst h; rfl
  | n + 1, x, h => by
    have hx : x / 256 < 256 ^ n := by rw [Nat.pow_succ] at h; omega
    show x % 256 + 256 * val8 (bytes8 n (x / 256)) = x
    rw [val_bytes n _ hx]
    omega
theorem pc_bytes : ∀ n x, pcN (8 * n) x = ((bytes8 n x).map (pcN 8)).sum
  | 0, x => rfl
  | n + 1, x => by
    have e : 8 * (n + 1) = 8 + 8 * n := by omega
    rw [e, pcN_add, pcN_mod 8 x, show (2 : Nat) ^ 8 = 256 from rfl, pc_bytes n (x / 256)]
    rfl
theorem bytes_lt : ∀ n x, ∀ b ∈ bytes8 n x, b < 256
  | 0, _, b, h => by cases h
  | n + 1, x, b, h => by
    rcases List.mem_cons.1 h with h | h
    · omega
    · exact bytes_lt n _ b h
theorem bytes_len : ∀ n x, (bytes8 n x).length = n
  | 0, _ => rfl
  | n + 1, x => by simp [bytes8, bytes_len n]
/-- A mask that is alike in each byte. -/
def rep8 (m : Nat) : Nat → Nat
  | 0 => 0
  | n + 1 => m + 256 * rep8 m n

theorem and_lane {b y m M : Nat} (hb : b < 256) (hm : m < 256) : (b + 256 * y) &&& (m + 256 * M) = (b &&& m) + 256 * (y &&& M) := by
  have e : ∀ a c : Nat, a + 256 * c = 2 ^ 8 * c + a := fun a c => by omega
  have hbm : b &&& m < 2 ^ 8 := Nat.and_lt_two_pow b (by omega)
  rw [e, e, e]
  apply Nat.eq_of_testBit_eq
  intro i
  rw [Nat.testBit_and, Nat.testBit_two_pow_mul_add _ (by omega), Nat.testBit_two_pow_mul_add _ (by omega), Nat.testBit_two_pow_mul_add _ hbm]
  split
  · rw [Nat.testBit_and]
  · rw [Nat.testBit_and]

def sA (x M : Nat) : Nat := (x / 2 &&& M) + (x &&& M)
def sB (x M : Nat) : Nat := (x / 4 &&& M) + (x &&& M)
def sC (x M : Nat) : Nat := (x / 16 + x) &&& M
theorem a_byte : ∀ b, b < 256 → ∀ t, t < 2 → (b / 2 + 128 * t) &&& 85 = b / 2 &&& 85 := by decide +kernel
theorem b_byte : ∀ b, b < 256 → ∀ t, t < 4 → (b / 4 + 64 * t) &&& 51 = b / 4 &&& 51 := by decide +kernel
theorem c_byte : ∀ b, b < 69 → ∀ t, t < 5 → (b / 16 + 16 * t + b) &&& 15 = (b / 16 + b) &&& 15 := by decide +kernel
theorem a_lane {b y M : Nat} (hb : b < 256) : sA (b + 256 * y) (85 + 256 * M) = sA b 85 + 256 * sA y M := by
  unfold sA
  have e : (b + 256 * y) / 2 = (b / 2 + 128 * (y % 2)) + 256 * (y / 2) := by omega
  rw [e, and_lane (by omega) (by omega), and_lane hb (by omega), a_byte b hb _ (by omega)]
  omega
theorem b_lane {b y M : Nat} (hb : b < 256) : sB (b + 256 * y) (51 + 256 * M) = sB b 51 + 256 * sB y M := by
  unfold sB
  have e : (b + 256 * y) / 4 = (b / 4 + 64 * (y % 4)) + 256 * (y / 4) := by omega
  rw [e, and_lane (by omega) (by omega), and_lane hb (by omega), b_byte b hb _ (by omega)]
  omega
theorem c_lane {b y M : Nat} (hb : b < 69) (hy : y % 16 < 5) : sC (b + 256 * y) (15 + 256 * M) = sC b 15 + 256 * sC y M := by
  unfold sC
  have e : (b + 256 * y) / 16 + (b + 256 * y) = (b / 16 + 16 * (y % 16) + b) + 256 * (y / 16 + y) := by omega
  rw [e, and_lane (by omega) (by omega), c_byte b hb _ hy]

theorem a_val : ∀ l : List Nat, (∀ b ∈ l, b < 256) → sA (val8 l) (rep8 85 l.length) = val8 (l.map (fun b => sA b 85))
  | [], _ => rfl
  | b :: l, h => by
    show sA (b + 256 * val8 l) (85 + 256 * rep8 85 l.length) = sA b 85 + 256 * val8 (l.map _)
    rw [a_lane (h b (by simp)), a_val l (fun c hc => h c (by simp [hc]))]
theorem b_val : ∀ l : List Nat, (∀ b ∈ l, b < 256) → sB (val8 l) (rep8 51 l.length) = val8 (l.map (fun b => sB b 51))
  | [], _ => rfl
  | b :: l, h => by
    show sB (b + 256 * val8 l) (51 + 256 * rep8 51 l.length) = sB b 51 + 256 * val8 (l.map _)
    rw [b_lane (h b (by simp)), b_val l (fun c hc => h c (by simp [hc]))]
theorem c_val : ∀ l : List Nat, (∀ b ∈ l, b < 69 ∧ b % 16 < 5) → sC (val8 l) (rep8 15 l.length) = val8 (l.map (fun b => sC b 15))
  | [], _ => rfl
  | b :: l, h => by
    show sC (b + 256 * val8 l) (15 + 256 * rep8 15 l.length) = sC b 15 + 256 * val8 (l.map _)
    have hy : val8 l % 16 < 5 := by
      cases l with
      | nil => decide
      | cons c l =>
        have := (h c (by simp)).2
        show (c + 256 * val8 l) % 16 < 5
        omega
    rw [c_lane (h b (by simp)).1 hy, c_val l (fun c hc => h c (by simp [hc]))]
theorem abc_byte : ∀ b, b < 256 → sA b 85 < 256 ∧ (sB (sA b 85) 51 < 69 ∧ sB (sA b 85) 51 % 16 < 5) ∧ sC (sB (sA b 85) 51) 15 = pcN 8 b ∧ pcN 8 b ≤ 8 := by decide +kernel
theorem abc_val (l : List Nat) (h : ∀ b ∈ l, b < 256) : sC (sB (sA (val8 l) (rep8 85 l.length)) (rep8 51 l.length)) (rep8 15 l.length) = val8 (l.map (pcN 8)) := by
  rw [a_val l h]
  have e1 := b_val (l.map (fun b => sA b 85)) (fun c hc => by obtain ⟨b, hb, rfl⟩ := List.mem_map.1 hc; exact (abc_byte b (h b hb)).1)
  rw [List.length_map] at e1
  rw [e1, List.map_map]
  have e2 := c_val (l.map ((fun b => sB b 51) ∘ fun b => sA b 85)) (fun c hc => by obtain ⟨b, hb, rfl⟩ := List.mem_map.1 hc; exact (abc_byte b (h b hb)).2.1)
  rw [List.length_map] at e2
  rw [e2, List.map_map]
  congr 1
  apply List.map_congr_left
  intro b hb
  exact (abc_byte b (h b hb)).2.2.1

theorem x1 (b r : Nat) (h : b ≤ 100) : (b + 256 * r) / 256 = r := by omega
theorem x2 (s1 s2 r : Nat) (h1 : s1 ≤ 100) (h2 : s2 ≤ 100) : (s1 + 256 * (s2 + 256 * r)) / 65536 = r := by omega
theorem x3 (s1 s2 s3 s4 r : Nat) (h1 : s1 ≤ 100) (h2 : s2 ≤ 100) (h3 : s3 ≤ 100) (h4 : s4 ≤ 100) : (s1 + 256 * (s2 + 256 * (s3 + 256 * (s4 + 256 * r)))) / 4294967296 = r := by omega
theorem x4 (a r b q : Nat) : (a + 256 * r) + (b + 256 * q) = (a + b) + 256 * (r + q) := by omega
theorem x5 {a b c d e f g h : Nat} (ha : a ≤ 100) (hb : b ≤ 100) (hc : c ≤ 100) (hd : d ≤ 100) (he : e ≤ 100) (hf : f ≤ 100) (hg : g ≤ 100) (hh : h ≤ 100) : (a + 256 * (b + 256 * (c + 256 * (d + 256 * (e + 256 * (f + 256 * (g + 256 * h))))))) < 18446744073709551616 := by omega
theorem x6 {s q n : Nat} (hs : s = n) (hn : n ≤ 100) : (s + 256 * q) % 128 = n := by omega
/-- The sum of eight bytes, as the library folds them. -/
theorem fold8 (a b c d e f g h : Nat) (ha : a ≤ 8) (hb : b ≤ 8) (hc : c ≤ 8) (hd : d ≤ 8) (he : e ≤ 8) (hf : f ≤ 8) (hg : g ≤ 8) (hh : h ≤ 8) {y y4 y5 y6 : Nat}
    (e0 : y = val8 [a, b, c, d, e, f, g, h]) (e4 : y4 = y + y / 256) (e5 : y5 = y4 + y4 / 65536) (e6 : y6 = y5 + y5 / 4294967296) :
    y4 < 18446744073709551616 ∧ y5 < 18446744073709551616 ∧ y6 < 18446744073709551616 ∧ y6 % 128 = a + b + c + d + e + f + g + h := by
  simp only [val8, Nat.mul_zero, Nat.add_zero] at e0
  have d1 : y / 256 = b + 256 * (c + 256 * (d + 256 * (e + 256 * (f + 256 * (g + 256 * h))))) := by rw [e0]; exact x1 _ _ (by omega)
  rw [d1, e0] at e4
  have e4' : y4 = (a + b) + 256 * ((b + c) + 256 * ((c + d) + 256 * ((d + e) + 256 * ((e + f) + 256 * ((f + g) + 256 * ((g + h) + 256 * h)))))) := by
    rw [e4, x4, x4, x4, x4, x4, x4, Nat.add_right_comm g (256 * h) h]
  clear e4 e0 d1
  have d2 : y4 / 65536 = (c + d) + 256 * ((d + e) + 256 * ((e + f) + 256 * ((f + g) + 256 * ((g + h) + 256 * h)))) := by rw [e4']; exact x2 _ _ _ (by omega) (by omega)
  have e5' : y5 = (a + b + (c + d)) + 256 * ((b + c + (d + e)) + 256 * ((c + d + (e + f)) + 256 * ((d + e + (f + g)) + 256 * ((e + f + (g + h)) + 256 * ((f + g + h) + 256 * ((g + h) + 256 * h)))))) := by
    rw [e5, d2, e4', x4, x4, x4, x4, x4, Nat.add_right_comm (f + g) _ h]
  have d3 : y5 / 4294967296 = (e + f + (g + h)) + 256 * ((f + g + h) + 256 * ((g + h) + 256 * h)) := by rw [e5']; exact x3 _ _ _ _ _ (by omega) (by omega) (by omega) (by omega)
  have e6' : y6 = (a + b + (c + d) + (e + f + (g + h))) + 256 * ((b + c + (d + e) + (f + g + h)) + 256 * ((c + d + (e + f) + (g + h)) + 256 * ((d + e + (f + g) + h) + 256 * ((e + f + (g + h)) + 256 * ((f + g + h) + 256 * ((g + h) + 256 * h)))))) := by
    rw [e6, d3, e5', x4, x4, x4, Nat.add_right_comm (d + e + (f + g)) _ h]
  clear e5 d2 d3 e6
  refine ⟨?_, ?_, ?_, ?_⟩
  · rw [e4']; clear e4' e5' e6'; exact x5 (by omega) (by omega) (by omega) (by omega) (by omega) (by omega) (by omega) (by omega)
  · rw [e5']; clear e4' e5' e6'; exact x5 (by omega) (by omega) (by omega) (by omega) (by omega) (by omega) (by omega) (by omega)
  · rw [e6']; clear e4' e5' e6'; exact x5 (by omega) (by omega) (by omega) (by omega) (by omega) (by omega) (by omega) (by omega)
  · rw [e6']; clear e4' e5' e6'; exact x6 (by omega) (by omega)

theorem andN {x y : Nat} (hx : x < 2 ^ 64) (hy : y < 2 ^ 64) : bitsOp .and .u64 (x : Int) (y : Int) = ((x &&& y : Nat) : Int) := by
  have e : ∀ z : Nat, z < 2 ^ 64 → (z : Int) = mi (BitVec.ofNat 64 z) := fun z hz => by
    unfold mi
    rw [BitVec.toNat_ofNat, Nat.mod_eq_of_lt hz]
  rw [e x hx, e y hy, bits_and]
  unfold mi
  rw [BitVec.toNat_and, BitVec.toNat_ofNat, BitVec.toNat_ofNat, Nat.mod_eq_of_lt hx, Nat.mod_eq_of_lt hy]
theorem shrN (x : Nat) {k d : Nat} (hk : k ≤ 64) (hd : 2 ^ k = d) : shrOp .u64 (x : Int) (k : Int) = ((x / d : Nat) : Int) := by
  subst hd
  unfold shrOp
  have e1 : min ((k : Int)).toNat IntKind.u64.bits = k := by show min _ 64 = k; omega
  rw [e1, show ((2 : Int) ^ k) = ((2 ^ k : Nat) : Int) by simp, Int.fdiv_eq_ediv_of_nonneg _ (Int.natCast_nonneg _), ← Int.natCast_ediv]
theorem addN {x y : Nat} (h : x + y < 2 ^ 64) : IntKind.wrap .u64 ((x : Int) + (y : Int)) = ((x + y : Nat) : Int) := by
  rw [wrapu (by omega)]
  omega
end Go.Dav
