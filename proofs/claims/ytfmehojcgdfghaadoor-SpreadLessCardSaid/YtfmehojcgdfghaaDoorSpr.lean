/- Things that are spread over cores: plain words. -/
import Derived.Test.YtfmehojcgdfghaaDoorBest
import Derived.Test.YtfmehojcgdfghaaDoorCnt
set_option linter.unusedSimpArgs false
set_option linter.unusedVariables false
set_option linter.unusedVariables false
namespace Go.Dav
abbrev TI := Int × Int × BV
abbrev MV := Int × Int × Int
/-- How many things a core has. -/
def cnC (l : List TI) (c : Int) : Nat := l.countP (fun x => x.2.1 == c)
theorem cnC_le (l : List TI) (c : Int) : cnC l c ≤ l.length := List.countP_le_length
theorem cnC_snoc (l : List TI) (x : TI) (c : Int) : cnC (l ++ [x]) c = cnC l c + if x.2.1 = c then 1 else 0 := by
  unfold cnC
  rw [List.countP_append, List.countP_singleton]
  by_cases h : x.2.1 = c <;> simp [h]
theorem cnC_set : ∀ {l : List TI} {i : Nat} (hi : i < l.length) (y : TI) (c : Int), cnC (l.set i y) c + (if l[i].2.1 = c then 1 else 0) = cnC l c + (if y.2.1 = c then 1 else 0)
  | x :: l, 0, _, y, c => by
    unfold cnC
    simp only [List.set_cons_zero, List.countP_cons, List.getElem_cons_zero, beq_iff_eq]
    omega
  | x :: l, i + 1, hi, y, c => by
    have ih := cnC_set (l := l) (i := i) (by simpa using hi) y c
    unfold cnC at ih ⊢
    simp only [List.set_cons_succ, List.countP_cons, List.getElem_cons_succ, beq_iff_eq]
    omega
def ldL (N : Nat) (l : List TI) : List Int := (List.range N).map fun c : Nat => (cnC l (c : Int) : Int)
theorem ldL_len (N : Nat) (l : List TI) : (ldL N l).length = N := by simp [ldL]
theorem ldL_at {N c : Nat} (l : List TI) (hc : c < N) : (ldL N l)[c]'(by rw [ldL_len]; exact hc) = (cnC l (c : Int) : Int) := by simp [ldL]
theorem ldL_nil (N : Nat) : ldL N [] = List.replicate N 0 := by
  apply List.ext_getElem
  · simp [ldL]
  · intro i h1 h2
    simp [ldL, cnC]
theorem ldL_in {N : Nat} {l : List TI} {x : TI} {c : Nat} (hc : c < N) (hx : x.2.1 = (c : Int)) : ldL N (l ++ [x]) = (ldL N l).set c ((cnC l (c : Int) : Int) + 1) := by
  apply List.ext_getElem
  · simp [ldL]
  · intro i h1 h2
    rw [ldL_len] at h1
    rw [ldL_at _ h1, cnC_snoc, List.getElem_set, hx]
    by_cases e : c = i
    · subst e; rw [if_pos rfl, if_pos rfl]; rfl
    · rw [if_neg (by omega), if_neg e, ldL_at _ h1]; rfl
theorem ldL_out {N : Nat} {l : List TI} {x : TI} (hx : ¬ (0 ≤ x.2.1 ∧ x.2.1 < N)) : ldL N (l ++ [x]) = ldL N l := by
  apply List.ext_getElem
  · simp [ldL]
  · intro i h1 h2
    rw [ldL_len] at h1
    rw [ldL_at _ h1, cnC_snoc, if_neg (by omega), ldL_at _ h1]; rfl
/-- A thing goes from a core to another one. -/
theorem ldL_move {N : Nat} {l : List TI} {i : Nat} (hi : i < l.length) {a b : Nat} (ha : a < N) (hb : b < N) (hab : a ≠ b) (hx : l[i].2.1 = (a : Int)) (u : Int) (m : BV) :
    ((ldL N l).set a ((cnC l a : Int) - 1)).set b ((cnC l b : Int) + 1) = ldL N (l.set i (u, (b : Int), m)) := by
  apply List.ext_getElem
  · simp [ldL]
  · intro j h1 h2
    rw [ldL_len] at h2
    rw [ldL_at _ h2, List.getElem_set, List.getElem_set]
    have h := cnC_set hi (u, (b : Int), m) (j : Int)
    rw [hx] at h
    simp only at h
    by_cases hjb : b = j
    · subst hjb
      rw [if_pos rfl]
      rw [if_neg (by omega), if_pos rfl] at h
      omega
    · rw [if_neg hjb]
      rw [if_neg (show ¬ ((b : Int) = (j : Int)) by omega)] at h
      by_cases hja : a = j
      · subst hja
        rw [if_pos rfl]
        rw [if_pos rfl] at h
        omega
      · rw [if_neg hja, ldL_at _ h2]
        rw [if_neg (by omega)] at h
        omega

/-! ### Sums -/
def smN (n : Nat) (f : Nat → Nat) : Nat := ((List.range n).map f).sum
theorem smN_succ (n : Nat) (f : Nat → Nat) : smN (n + 1) f = smN n f + f n := by
  unfold smN
  rw [List.range_succ, List.map_append, List.sum_append]
  simp
theorem smN_congr {n : Nat} {f g : Nat → Nat} (h : ∀ c, c < n → f c = g c) : smN n f = smN n g := by
  unfold smN
  congr 1
  exact List.map_congr_left fun c hc => h c (List.mem_range.1 hc)
theorem smN_upd {n a : Nat} (ha : a < n) (f : Nat → Nat) (u : Nat) : smN n (fun c => if c = a then u else f c) + f a = smN n f + u := by
  induction n with
  | zero => omega
  | succ n ih =>
    rw [smN_succ, smN_succ]
    by_cases h : n = a
    · subst h
      rw [if_pos rfl, smN_congr (g := f) (fun c hc => by rw [if_neg (by omega)])]
      omega
    · rw [if_neg h]
      have := ih (by omega)
      omega
theorem smN_sq (n : Nat) (f : Nat → Nat) : smN n (fun c => f c * f c) ≤ smN n f * smN n f := by
  induction n with
  | zero => simp [smN]
  | succ n ih =>
    rw [smN_succ, smN_succ, Nat.add_mul, Nat.mul_add, Nat.mul_add]
    have h1 : 0 ≤ smN n f * f n := Nat.zero_le _
    omega
theorem smN_cn (n : Nat) : ∀ l : List TI, smN n (fun c => cnC l (c : Int)) ≤ l.length
  | [] => by
    have : smN n (fun c => cnC [] (c : Int)) = smN n (fun _ => 0) := rfl
    rw [this]
    clear this
    induction n with
    | zero => simp [smN]
    | succ n ih => rw [smN_succ]; simpa using ih
  | x :: l => by
    have ih := smN_cn n l
    have h : ∀ k, k ≤ n → smN k (fun c => cnC (x :: l) (c : Int)) ≤ smN k (fun c => cnC l (c : Int)) + (if 0 ≤ x.2.1 ∧ x.2.1 < k then 1 else 0) := by
      intro k
      induction k with
      | zero => intro _; simp [smN]
      | succ k ihk =>
        intro hk
        have := ihk (by omega)
        rw [smN_succ, smN_succ]
        have e : cnC (x :: l) (k : Int) = cnC l (k : Int) + if x.2.1 = (k : Int) then 1 else 0 := by
          unfold cnC
          rw [List.countP_cons]
          simp only [beq_iff_eq]
        rw [e]
        split at this <;> split <;> split <;> omega
    have := h n (Nat.le_refl _)
    simp only [List.length_cons]
    split at this <;> omega
def sqN (n : Nat) (l : List TI) : Nat := smN n fun c => cnC l (c : Int) * cnC l (c : Int)
theorem sqN_le {l : List TI} (h : l.length ≤ 64) (n : Nat) : sqN n l ≤ 4096 := by
  have h1 := smN_sq n (fun c => cnC l (c : Int))
  have h2 := smN_cn n l
  have h3 : smN n (fun c => cnC l (c : Int)) * smN n (fun c => cnC l (c : Int)) ≤ 64 * 64 := Nat.mul_le_mul (by omega) (by omega)
  unfold sqN
  omega
/-- Such a move makes the weight less. -/
theorem sqN_move {n : Nat} {l : List TI} {i : Nat} (hi : i < l.length) {a b : Nat} (ha : a < n) (hb : b < n) (hx : l[i].2.1 = (a : Int)) (hd : cnC l (b : Int) + 2 ≤ cnC l (a : Int)) (u : Int) (m : BV) :
    sqN n (l.set i (u, (b : Int), m)) + 2 ≤ sqN n l := by
  have hab : a ≠ b := fun e => by subst e; omega
  have hc : ∀ c : Nat, cnC (l.set i (u, (b : Int), m)) (c : Int) = if c = a then cnC l (a : Int) - 1 else if c = b then cnC l (b : Int) + 1 else cnC l (c : Int) := by
    intro c
    have h := cnC_set hi (u, (b : Int), m) (c : Int)
    rw [hx] at h
    simp only at h
    by_cases h1 : c = a
    · subst h1
      rw [if_pos rfl]
      rw [if_pos rfl, if_neg (by omega)] at h
      omega
    · rw [if_neg h1]
      rw [if_neg (show ¬ ((a : Int) = (c : Int)) by omega)] at h
      by_cases h2 : c = b
      · subst h2; rw [if_pos rfl]; rw [if_pos rfl] at h; omega
      · rw [if_neg h2]; rw [if_neg (by omega)] at h; omega
  unfold sqN
  have e : smN n (fun c => cnC (l.set i (u, (b : Int), m)) (c : Int) * cnC (l.set i (u, (b : Int), m)) (c : Int)) =
      smN n (fun c => if c = a then (cnC l (a : Int) - 1) * (cnC l (a : Int) - 1) else (fun c => if c = b then (cnC l (b : Int) + 1) * (cnC l (b : Int) + 1) else (fun c : Nat => cnC l (c : Int) * cnC l (c : Int)) c) c) := by
    refine smN_congr fun c _ => ?_
    rw [hc]
    simp only
    split
    · rfl
    · split <;> rfl
  rw [e]
  have h1 := smN_upd ha (fun c => if c = b then (cnC l (b : Int) + 1) * (cnC l (b : Int) + 1) else (fun c : Nat => cnC l (c : Int) * cnC l (c : Int)) c) ((cnC l (a : Int) - 1) * (cnC l (a : Int) - 1))
  have h2 := smN_upd hb (fun c : Nat => cnC l (c : Int) * cnC l (c : Int)) ((cnC l (b : Int) + 1) * (cnC l (b : Int) + 1))
  simp only [if_neg hab] at h1
  generalize smN n (fun c => if c = a then (cnC l (a : Int) - 1) * (cnC l (a : Int) - 1) else if c = b then (cnC l (b : Int) + 1) * (cnC l (b : Int) + 1) else cnC l (c : Int) * cnC l (c : Int)) = X at *
  generalize smN n (fun c => if c = b then (cnC l (b : Int) + 1) * (cnC l (b : Int) + 1) else cnC l (c : Int) * cnC l (c : Int)) = Y at *
  generalize smN n (fun c : Nat => cnC l (c : Int) * cnC l (c : Int)) = Z at *
  generalize cnC l (a : Int) = p at *
  generalize cnC l (b : Int) = q at *
  obtain ⟨d, rfl⟩ : ∃ d, p = q + 2 + d := ⟨p - (q + 2), by omega⟩
  have e1 : q + 2 + d - 1 = q + 1 + d := by omega
  rw [e1] at h1
  have x1 : (q + 1 + d) * (q + 1 + d) = q * q + 1 + d * d + 2 * q + 2 * (q * d) + 2 * d := by
    simp only [Nat.add_mul, Nat.mul_add, Nat.mul_one, Nat.one_mul, Nat.mul_comm d q]; omega
  have x2 : (q + 2 + d) * (q + 2 + d) = q * q + 4 + d * d + 4 * q + 2 * (q * d) + 4 * d := by
    simp only [Nat.add_mul, Nat.mul_add, Nat.mul_comm d q]; omega
  have x3 : (q + 1) * (q + 1) = q * q + 2 * q + 1 := by
    simp only [Nat.add_mul, Nat.mul_add, Nat.mul_one, Nat.one_mul]; omega
  rw [x1, x2] at h1
  rw [x3] at h2
  omega

/-! ### The plan -/
def satI (a b : Int) (x : TI) : Bool := x.2.1 == a && hs x.2.2 b
/-- The place of the last of the first ones that may go. -/
def lastN (l : List TI) (a b : Int) : Nat → Int
  | 0 => -1
  | i + 1 => if satI a b (l.getD i (0, 0, 0)) then (i : Int) else lastN l a b i
theorem lastN_cases {l : List TI} {a b : Int} : ∀ {n : Nat} (hn : n ≤ l.length), (lastN l a b n = -1 ∧ ∀ (i : Nat) (hi : i < n), satI a b (l[i]'(by omega)) = false) ∨ ∃ (i : Nat) (hi : i < n), lastN l a b n = i ∧ satI a b (l[i]'(by omega)) = true
  | 0, _ => .inl ⟨rfl, fun i hi => by omega⟩
  | n + 1, hn => by
    have e : l.getD n (0, 0, 0) = l[n]'(by omega) := by simp [show n < l.length by omega]
    unfold lastN
    rw [e]
    cases hs : satI a b (l[n]'(by omega)) with
    | true => exact .inr ⟨n, by omega, rfl, hs⟩
    | false =>
      rw [if_neg (by simp)]
      rcases lastN_cases (n := n) (l := l) (a := a) (b := b) (by omega) with ⟨h1, h2⟩ | ⟨i, hi, h1, h2⟩
      · refine .inl ⟨h1, fun i hi => ?_⟩
        by_cases hin : i = n
        · subst hin; exact hs
        · exact h2 i (by omega)
      · exact .inr ⟨i, by omega, h1, h2⟩
def bestOf (gt : Int → Int → Bool) (m : BV) (l : List TI) : Int := (bestF (fun c => (cnC l c : Int)) gt (cs m)).getD (-1)
theorem bestOf_in {gt : Int → Int → Bool} {m : BV} (hm : m ≠ 0) (l : List TI) : hs m (bestOf gt m l) = true ∧ bestF (fun c => (cnC l c : Int)) gt (cs m) = some (bestOf gt m l) := by
  unfold bestOf
  rcases bestF_in (fun c => (cnC l c : Int)) gt (cs m) with ⟨_, h⟩ | ⟨a, ha, h⟩
  · exact absurd (cs_nil.1 h) hm
  · rw [h]
    exact ⟨(mem_upto.1 ha).2.2, rfl⟩
abbrev PS := List MV × List TI
def stepP (m : BV) (s : PS) : Option PS :=
  if (cnC s.2 (bestOf gtB m s.2) : Int) - cnC s.2 (bestOf ltB m s.2) < 2 then none
  else if lastN s.2 (bestOf gtB m s.2) (bestOf ltB m s.2) s.2.length < 0 then none
  else some (s.1 ++ [((s.2.getD (lastN s.2 (bestOf gtB m s.2) (bestOf ltB m s.2) s.2.length).toNat (0, 0, 0)).1, bestOf gtB m s.2, bestOf ltB m s.2)],
    s.2.set (lastN s.2 (bestOf gtB m s.2) (bestOf ltB m s.2) s.2.length).toNat ((s.2.getD (lastN s.2 (bestOf gtB m s.2) (bestOf ltB m s.2) s.2.length).toNat (0, 0, 0)).1, bestOf ltB m s.2, (s.2.getD (lastN s.2 (bestOf gtB m s.2) (bestOf ltB m s.2) s.2.length).toNat (0, 0, 0)).2.2))
def runP (m : BV) (l : List TI) : Nat → Option PS
  | 0 => some ([], l)
  | n + 1 => (runP m l n).bind (stepP m)
structure PlanI (m : BV) (l : List TI) : Prop where
  one : (l.map (·.1)).Nodup
  on : ∀ x ∈ l, hs m x.2.1 = true
  len : l.length ≤ 64
/-- A step. -/
structure StepI (m : BV) (l : List TI) (i : Nat) (a b : Nat) : Prop where
  lt : i < l.length
  a1 : hs m (a : Int) = true
  b1 : hs m (b : Int) = true
  cpu : l[i].2.1 = (a : Int)
  may : hs l[i].2.2 (b : Int) = true
  dif : cnC l (b : Int) + 2 ≤ cnC l (a : Int)
  ea : bestOf gtB m l = (a : Int)
  eb : bestOf ltB m l = (b : Int)
  el : lastN l (a : Int) (b : Int) l.length = (i : Int)
theorem hs_nat {m : BV} {c : Int} (h : hs m c = true) : ∃ k : Nat, c = (k : Int) ∧ k < 64 := by
  have := hs_in h
  exact ⟨c.toNat, by omega, by omega⟩
theorem step_cases {m : BV} (hm : m ≠ 0) (s : PS) :
    (stepP m s = none ∧ ((cnC s.2 (bestOf gtB m s.2) : Int) - cnC s.2 (bestOf ltB m s.2) < 2 ∨ lastN s.2 (bestOf gtB m s.2) (bestOf ltB m s.2) s.2.length = -1)) ∨
    ∃ i a b, ∃ h : StepI m s.2 i a b, stepP m s = some (s.1 ++ [((s.2[i]'h.lt).1, (a : Int), (b : Int))], s.2.set i ((s.2[i]'h.lt).1, (b : Int), (s.2[i]'h.lt).2.2)) := by
  obtain ⟨out, l⟩ := s
  simp only
  obtain ⟨a1, _⟩ := bestOf_in (gt := gtB) hm l
  obtain ⟨b1, _⟩ := bestOf_in (gt := ltB) hm l
  obtain ⟨a, ha, _⟩ := hs_nat a1
  obtain ⟨b, hb, _⟩ := hs_nat b1
  unfold stepP
  simp only
  rw [ha] at a1 ⊢
  rw [hb] at b1 ⊢
  by_cases h1 : (cnC l (a : Int) : Int) - cnC l (b : Int) < 2
  · rw [if_pos h1]
    exact .inl ⟨rfl, .inl h1⟩
  · rw [if_neg h1]
    rcases lastN_cases (l := l) (a := (a : Int)) (b := (b : Int)) (Nat.le_refl _) with ⟨k1, k2⟩ | ⟨i, hi, k1, k2⟩
    · rw [k1, if_pos (by omega)]
      exact .inl ⟨rfl, .inr rfl⟩
    · rw [k1, if_neg (by omega)]
      unfold satI at k2
      simp only [Bool.and_eq_true, beq_iff_eq] at k2
      refine .inr ⟨i, a, b, ⟨hi, a1, b1, k2.1, k2.2, by omega, ha, hb, k1⟩, ?_⟩
      simp only [Int.toNat_natCast, List.getD_eq_getElem?_getD, List.getElem?_eq_getElem hi, Option.getD_some]
theorem StepI.set {m : BV} {l : List TI} {i a b : Nat} (h : StepI m l i a b) (hP : PlanI m l) : PlanI m (l.set i ((l[i]'h.lt).1, (b : Int), (l[i]'h.lt).2.2)) := by
  refine ⟨?_, fun x hx => ?_, by simpa using hP.len⟩
  · have e : (l.set i ((l[i]'h.lt).1, (b : Int), (l[i]'h.lt).2.2)).map (·.1) = l.map (·.1) := by
      apply List.ext_getElem
      · simp
      · intro j h1 h2
        simp only [List.getElem_map, List.getElem_set]
        split
        · rename_i e; subst e; rfl
        · rfl
    rw [e]; exact hP.one
  · rcases List.mem_or_eq_of_mem_set hx with h1 | h1
    · exact hP.on x h1
    · rw [h1]; exact h.b1
/-- What is so behind some steps. -/
structure RunI (m : BV) (l : List TI) (n : Nat) (s : PS) : Prop where
  plan : PlanI m s.2
  len : s.1.length = n
  wt : 2 * n + sqN 64 s.2 ≤ sqN 64 l
  size : s.2.length = l.length
  same : ∀ (j : Nat) (h1 : j < s.2.length) (h2 : j < l.length), s.2[j].1 = l[j].1 ∧ s.2[j].2.2 = l[j].2.2
theorem runP_I {m : BV} (hm : m ≠ 0) {l : List TI} (hP : PlanI m l) : ∀ {n : Nat} {s : PS}, runP m l n = some s → RunI m l n s
  | 0, s, h => by
    unfold runP at h
    have := (Option.some.inj h).symm
    subst this
    exact ⟨hP, rfl, by simp, rfl, fun j h1 h2 => ⟨rfl, rfl⟩⟩
  | n + 1, s, h => by
    unfold runP at h
    obtain ⟨s0, h0, h1⟩ := Option.bind_eq_some_iff.1 h
    have ih := runP_I hm hP h0
    rcases step_cases hm s0 with ⟨k, _⟩ | ⟨i, a, b, hS, k⟩
    · rw [k] at h1; cases h1
    · rw [k] at h1
      have := (Option.some.inj h1).symm
      subst this
      obtain ⟨_, ha, _⟩ := hs_nat hS.a1
      obtain ⟨_, hb, _⟩ := hs_nat hS.b1
      have hw := sqN_move (n := 64) hS.lt (a := a) (b := b) (by omega) (by omega) hS.cpu hS.dif (s0.2[i]'hS.lt).1 (s0.2[i]'hS.lt).2.2
      have h3 := ih.wt
      refine ⟨hS.set ih.plan, by simp [ih.len], by simp only; omega, by simp [ih.size], fun j h1 h2 => ?_⟩
      simp only [List.length_set] at h1
      have h4 := ih.same j h1 h2
      simp only [List.getElem_set]
      split
      · rename_i e; subst e; exact h4
      · exact h4
theorem runP_up {m : BV} {l : List TI} {n k : Nat} (h : n ≤ k) (hk : (runP m l k).isSome = true) : (runP m l n).isSome = true := by
  induction h with
  | refl => exact hk
  | step h ih =>
    apply ih
    unfold runP at hk
    cases h1 : runP m l _ with
    | none => rw [h1] at hk; cases hk
    | some s => rfl
/-- There is one end alone. -/
theorem runP_end {m : BV} {l : List TI} {n1 n2 : Nat} {s1 s2 : PS} (h1 : runP m l n1 = some s1) (e1 : stepP m s1 = none) (h2 : runP m l n2 = some s2) (e2 : stepP m s2 = none) : s1 = s2 := by
  have key : ∀ {n1 n2 : Nat} {s1 s2 : PS}, runP m l n1 = some s1 → stepP m s1 = none → runP m l n2 = some s2 → ¬ n1 < n2 := by
    intro n1 n2 s1 s2 h1 e1 h2 hlt
    have := runP_up (m := m) (l := l) (n := n1 + 1) (k := n2) hlt (by rw [h2]; rfl)
    unfold runP at this
    rw [h1] at this
    simp only [Option.bind_some, e1] at this
    cases this
  have : n1 = n2 := by
    have := key h1 e1 h2
    have := key h2 e2 h1
    omega
  subst this
  rw [h1] at h2
  exact Option.some.inj h2

theorem stepP_lo {m : BV} {s : PS} (h : (cnC s.2 (bestOf gtB m s.2) : Int) - cnC s.2 (bestOf ltB m s.2) < 2) : stepP m s = none := if_pos h
theorem stepP_no {m : BV} {s : PS} (h : lastN s.2 (bestOf gtB m s.2) (bestOf ltB m s.2) s.2.length < 0) : stepP m s = none := by
  unfold stepP
  by_cases h1 : (cnC s.2 (bestOf gtB m s.2) : Int) - cnC s.2 (bestOf ltB m s.2) < 2
  · rw [if_pos h1]
  · rw [if_neg h1, if_pos h]
theorem cs_within {m : BV} {n : Int} (h : (m &&& ~~~ upM n) = 0) : ∀ c ∈ cs m, c < n := by
  intro c hc
  have h1 := (mem_upto.1 hc).2.2
  have h2 : hs (m &&& ~~~ upM n) c = false := by rw [h, hs_zero]
  rw [hs_not, h1, hs_upM, Bool.true_and] at h2
  have h3 := mem_upto.1 hc
  simp at h2
  omega
theorem bestOf_ld {m : BV} {N : Nat} (h : (m &&& ~~~ upM (N : Int)) = 0) (gt : Int → Int → Bool) (l : List TI) : (bestF (fun c => (ldL N l).getD c.toNat 0) gt (cs m)).getD (-1) = bestOf gt m l := by
  unfold bestOf
  rw [bestF_congr]
  intro c hc
  have h1 := cs_within h c hc
  have h2 := mem_upto.1 hc
  obtain ⟨k, rfl⟩ : ∃ k : Nat, c = (k : Int) := ⟨c.toNat, by omega⟩
  simp [ldL, show k < N by omega]

/-! ### Moves that are made -/
def moP (mv : MV) (x : TI) : Bool := x.1 == mv.1 && x.2.1 == mv.2.1
def ap1 (l : List TI) (mv : MV) : Option (List TI) := match l.findIdx? (moP mv) with
  | none => none
  | some i => some (l.set i ((l.getD i (0, 0, 0)).1, mv.2.2, (l.getD i (0, 0, 0)).2.2))
def apL (l : List TI) : List MV → Option (List TI)
  | [] => some l
  | mv :: t => (ap1 l mv).bind fun l' => apL l' t
theorem apL_snoc : ∀ (l : List TI) (t : List MV) (mv : MV), apL l (t ++ [mv]) = (apL l t).bind fun l' => ap1 l' mv
  | l, [], mv => by
    simp only [List.nil_append, apL, Option.bind_some]
    cases ap1 l mv <;> rfl
  | l, a :: t, mv => by
    simp only [List.cons_append, apL]
    cases h : ap1 l a with
    | none => rfl
    | some l' =>
      simp only [Option.bind_some]
      exact apL_snoc l' t mv
theorem apL_app : ∀ (l : List TI) (t u : List MV), apL l (t ++ u) = (apL l t).bind fun l' => apL l' u
  | l, [], u => rfl
  | l, a :: t, u => by
    simp only [List.cons_append, apL]
    cases h : ap1 l a with
    | none => rfl
    | some l' =>
      simp only [Option.bind_some]
      exact apL_app l' t u
theorem ap1_len {l l' : List TI} {mv : MV} (h : ap1 l mv = some l') : l'.length = l.length := by
  unfold ap1 at h
  split at h
  · cases h
  · have := (Option.some.inj h).symm; subst this; simp
theorem apL_len : ∀ {t : List MV} {l l' : List TI}, apL l t = some l' → l'.length = l.length
  | [], l, l', h => by have := (Option.some.inj h).symm; subst this; rfl
  | a :: t, l, l', h => by
    obtain ⟨l1, h1, h2⟩ := Option.bind_eq_some_iff.1 h
    rw [apL_len h2, ap1_len h1]
theorem StepI.ap {m : BV} {l : List TI} {i a b : Nat} (h : StepI m l i a b) (hP : PlanI m l) : ap1 l ((l[i]'h.lt).1, (a : Int), (b : Int)) = some (l.set i ((l[i]'h.lt).1, (b : Int), (l[i]'h.lt).2.2)) := by
  have hi := h.lt
  have hf : l.findIdx? (moP (l[i].1, (a : Int), (b : Int))) = some i := by
    rw [List.findIdx?_eq_some_iff_getElem]
    refine ⟨hi, by simp [moP, h.cpu], fun j hj => ?_⟩
    intro hm
    unfold moP at hm
    simp only [Bool.and_eq_true, beq_iff_eq] at hm
    have h1 := List.pairwise_iff_getElem.1 hP.one j i (by simp; omega) (by simpa using hi) hj
    simp only [List.getElem_map] at h1
    exact h1 hm.1
  unfold ap1
  rw [hf]
  simp [hi]
theorem runP_ap {m : BV} (hm : m ≠ 0) {l : List TI} (hP : PlanI m l) : ∀ {n : Nat} {s : PS}, runP m l n = some s → apL l s.1 = some s.2
  | 0, s, h => by
    unfold runP at h
    have := (Option.some.inj h).symm
    subst this
    rfl
  | n + 1, s, h => by
    unfold runP at h
    obtain ⟨s0, h0, h1⟩ := Option.bind_eq_some_iff.1 h
    have ih := runP_ap hm hP h0
    have hI := runP_I hm hP h0
    rcases step_cases hm s0 with ⟨k, _⟩ | ⟨i, a, b, hS, k⟩
    · rw [k] at h1; cases h1
    · rw [k] at h1
      have := (Option.some.inj h1).symm
      subst this
      rw [apL_snoc, ih]
      exact hS.ap hI.plan
/-- The moves of a plan, one after the other. -/
theorem runP_take {m : BV} (hm : m ≠ 0) {l : List TI} {n : Nat} {s : PS} (h : runP m l n = some s) {k : Nat} (hk : k ≤ n) : ∃ s', runP m l k = some s' ∧ s'.1 = s.1.take k := by
  have hlen : ∀ {n : Nat} {s : PS}, runP m l n = some s → s.1.length = n := by
    intro n
    induction n with
    | zero => intro s h; unfold runP at h; have := (Option.some.inj h).symm; subst this; rfl
    | succ n ih =>
      intro s h
      unfold runP at h
      obtain ⟨s0, h0, h1⟩ := Option.bind_eq_some_iff.1 h
      rcases step_cases hm s0 with ⟨k, _⟩ | ⟨i, a, b, hS, k⟩
      · rw [k] at h1; cases h1
      · rw [k] at h1
        have := (Option.some.inj h1).symm
        subst this
        simp [ih h0]
  induction n generalizing s with
  | zero =>
    have : k = 0 := by omega
    subst this
    exact ⟨s, h, by unfold runP at h; have := (Option.some.inj h).symm; subst this; rfl⟩
  | succ n ih =>
    by_cases hkn : k = n + 1
    · subst hkn
      exact ⟨s, h, by rw [List.take_of_length_le (by rw [hlen h]; omega)]⟩
    · have h' := h
      unfold runP at h'
      obtain ⟨s0, h0, h1⟩ := Option.bind_eq_some_iff.1 h'
      obtain ⟨s', k1, k2⟩ := ih h0 (by omega)
      refine ⟨s', k1, ?_⟩
      rcases step_cases hm s0 with ⟨k, _⟩ | ⟨i, a, b, hS, k⟩
      · rw [k] at h1; cases h1
      · rw [k] at h1
        have := (Option.some.inj h1).symm
        subst this
        rw [k2, List.take_append_of_le_length (by rw [hlen h0]; omega)]

/-! ### How unlike loads are, what they weigh -/
def ldOf (ld : List Int) (m : BV) : List Int := ((List.range ld.length).filter fun c : Nat => hs m (c : Int)).map fun c => ld.getD c 0
def ldOfN (ld : List Int) (m : BV) (n : Nat) : List Int := ((List.range n).filter fun c : Nat => hs m (c : Int)).map fun c => ld.getD c 0
theorem ldOfN_succ (ld : List Int) (m : BV) (n : Nat) : ldOfN ld m (n + 1) = if hs m (n : Int) then ldOfN ld m n ++ [ld.getD n 0] else ldOfN ld m n := by
  unfold ldOfN
  rw [List.range_succ, List.filter_append]
  cases h : hs m (n : Int) <;> simp [h]
theorem ldOfN_len (ld : List Int) (m : BV) (n : Nat) : (ldOfN ld m n).length ≤ n := by
  unfold ldOfN
  rw [List.length_map]
  exact Nat.le_trans (List.length_filter_le _ _) (by simp)
theorem ldOfN_64 (ld : List Int) (m : BV) : ∀ n, 64 ≤ n → ldOfN ld m n = ldOfN ld m 64
  | 0, h => by omega
  | n + 1, h => by
    by_cases hn : n + 1 = 64
    · rw [hn]
    · rw [ldOfN_succ, if_neg, ldOfN_64 ld m n (by omega)]
      intro hh
      have := hs_in hh
      omega
def mxL (a : Int) (l : List Int) : Int := l.foldl (fun x y => if y > x then y else x) a
def mnL (a : Int) (l : List Int) : Int := l.foldl (fun x y => if y < x then y else x) a
theorem mxL_snoc (a : Int) (l : List Int) (y : Int) : mxL a (l ++ [y]) = if y > mxL a l then y else mxL a l := by unfold mxL; rw [List.foldl_append]; rfl
theorem mnL_snoc (a : Int) (l : List Int) (y : Int) : mnL a (l ++ [y]) = if y < mnL a l then y else mnL a l := by unfold mnL; rw [List.foldl_append]; rfl
theorem mxL_in (a : Int) (l : List Int) : mxL a l ∈ a :: l := by
  unfold mxL
  induction l generalizing a with
  | nil => simp
  | cons y l ih =>
    rw [List.foldl_cons]
    have := ih (if y > a then y else a)
    split at this
    · rename_i h
      rw [if_pos h]
      exact List.mem_cons_of_mem _ this
    · rename_i h
      rw [if_neg h]
      rcases List.mem_cons.1 this with h | h
      · rw [h]; simp
      · exact List.mem_cons_of_mem _ (List.mem_cons_of_mem _ h)
theorem mnL_in (a : Int) (l : List Int) : mnL a l ∈ a :: l := by
  unfold mnL
  induction l generalizing a with
  | nil => simp
  | cons y l ih =>
    rw [List.foldl_cons]
    have := ih (if y < a then y else a)
    split at this
    · rename_i h
      rw [if_pos h]
      exact List.mem_cons_of_mem _ this
    · rename_i h
      rw [if_neg h]
      rcases List.mem_cons.1 this with h | h
      · rw [h]; simp
      · exact List.mem_cons_of_mem _ (List.mem_cons_of_mem _ h)
def gapW : List Int → Int
  | [] => 0
  | a :: l => IntKind.wrap .i64 (mxL a l - mnL a l)
theorem gapW_le {l : List Int} (h : ∀ u ∈ l, ∀ v ∈ l, u ≤ v + 1) (hb : ∀ u ∈ l, 0 ≤ u ∧ u ≤ 1048576) : gapW l ≤ 1 := by
  cases l with
  | nil => decide
  | cons a l =>
    show IntKind.wrap .i64 (mxL a l - mnL a l) ≤ 1
    have h1 := mxL_in a l
    have h2 := mnL_in a l
    have h3 := h _ h1 _ h2
    have h4 := hb _ h1
    have h5 := hb _ h2
    rw [w64 (by omega)]
    omega
def wtN (ld : List Int) : Nat → Int
  | 0 => 0
  | n + 1 => if 0 ≤ ld.getD n 0 ∧ ld.getD n 0 ≤ 1048576 then IntKind.wrap .i64 (wtN ld n + IntKind.wrap .i64 (ld.getD n 0 * ld.getD n 0)) else wtN ld n
theorem wtN_ld {l : List TI} (hl : l.length ≤ 64) {N : Nat} (hN : N ≤ 64) : ∀ n, n ≤ N → wtN (ldL N l) n = (sqN n l : Int)
  | 0, _ => rfl
  | n + 1, h => by
    have ih := wtN_ld hl hN n (by omega)
    have e : (ldL N l).getD n 0 = (cnC l (n : Int) : Int) := by
      have : n < N := by omega
      simp [ldL, this]
    have hc := cnC_le l (n : Int)
    have hs := sqN_le hl (n + 1)
    have hs0 := sqN_le hl n
    have e2 : sqN (n + 1) l = sqN n l + cnC l (n : Int) * cnC l (n : Int) := smN_succ _ _
    unfold wtN
    rw [e, ih, if_pos (by omega), e2]
    have e3 : ((cnC l (n : Int) : Int) * (cnC l (n : Int) : Int)) = ((cnC l (n : Int) * cnC l (n : Int) : Nat) : Int) := by simp
    rw [e3]
    generalize cnC l (n : Int) * cnC l (n : Int) = z at *
    rw [w64 (x := (z : Int)) (by omega), w64 (by omega)]
    omega
end Go.Dav
