/- The core of some that has most, or least. -/
import Derived.Test.YtgakbnonkgohfaaDoorRqL10d
import Derived.Test.YtgakbnonkgohfaaDoorCnt10d
set_option linter.unusedVariables false
set_option linter.unusedSimpArgs false
namespace Go.Dav
open Go.Proofs
def stepB (ld : Int → Int) (gt : Int → Int → Bool) (o : Option Int) (c : Int) : Option Int := match o with
  | none => some c
  | some a => if gt (ld c) (ld a) then some c else some a
/-- Of some the first one that is better than those ahead of it, and not worse than the others. -/
def bestF (ld : Int → Int) (gt : Int → Int → Bool) (l : List Int) : Option Int := l.foldl (stepB ld gt) none
theorem bestF_snoc (ld : Int → Int) (gt : Int → Int → Bool) (l : List Int) (c : Int) : bestF ld gt (l ++ [c]) = stepB ld gt (bestF ld gt l) c := by
  unfold bestF
  rw [List.foldl_append]
  rfl
theorem bestF_in (ld : Int → Int) (gt : Int → Int → Bool) (l : List Int) : (bestF ld gt l = none ∧ l = []) ∨ ∃ a ∈ l, bestF ld gt l = some a := by
  have h : ∀ (l : List Int) (o : Option Int), (l.foldl (stepB ld gt) o = none ∧ l = []) ∨ ∃ a, (a ∈ l ∨ o = some a) ∧ l.foldl (stepB ld gt) o = some a := by
    intro l
    induction l with
    | nil => intro o; cases o with
      | none => exact .inl ⟨rfl, rfl⟩
      | some a => exact .inr ⟨a, .inr rfl, rfl⟩
    | cons c l ih =>
      intro o
      right
      rw [List.foldl_cons]
      rcases ih (stepB ld gt o c) with ⟨k1, k2⟩ | ⟨a, k1, k2⟩
      · subst k2
        exfalso
        simp only [List.foldl_nil] at k1
        unfold stepB at k1
        split at k1
        · cases k1
        · split at k1 <;> cases k1
      · refine ⟨a, ?_, k2⟩
        rcases k1 with k1 | k1
        · exact .inl (List.mem_cons_of_mem _ k1)
        · unfold stepB at k1
          split at k1
          · exact .inl (by have := Option.some.inj k1; rw [this]; exact List.mem_cons_self)
          · split at k1
            · exact .inl (by have := Option.some.inj k1; rw [this]; exact List.mem_cons_self)
            · exact .inr k1
  rcases h l none with ⟨k1, k2⟩ | ⟨a, k1, k2⟩
  · exact .inl ⟨k1, k2⟩
  · exact .inr ⟨a, k1.resolve_right (by simp), k2⟩
def bestQ (ld : Int → Int) (gt : Int → Int → Bool) (l : List Int) : Int × Int := match bestF ld gt l with
  | none => (0, 12)
  | some a => (a, 0)
def gtB (a b : Int) : Bool := decide (a > b)
def ltB (a b : Int) : Bool := decide (a < b)
theorem cs_low_of (m : BV) {n : Nat} (hn : n ≤ 64) : cs (m &&& upM n) = upto (hs m) n := by
  have h : ∀ k, k ≤ 64 → upto (hs (m &&& upM n)) k = upto (hs m) (min k n) := by
    intro k
    induction k with
    | zero => intro _; rw [Nat.zero_min]; rfl
    | succ k ih =>
      intro hk
      rw [upto_succ, ih (by omega), hs_and, hs_upM]
      by_cases hkn : k < n
      · rw [Nat.min_eq_left (by omega), Nat.min_eq_left (by omega), upto_succ]
        have e1 : decide (0 ≤ (k : Int) ∧ (k : Int) < 64) = true := by simp; omega
        have e2 : decide ((k : Int) < (n : Int)) = true := by simp; omega
        rw [e1, e2, Bool.and_self, Bool.and_true]
      · rw [Nat.min_eq_right (by omega), Nat.min_eq_right (by omega)]
        have e2 : decide ((k : Int) < (n : Int)) = false := by simp; omega
        rw [e2, Bool.and_false, Bool.and_false]
        rfl
  have := h 64 (Nat.le_refl _)
  rw [Nat.min_eq_right hn] at this
  exact this
section
variable {b : Nat} {w : World} {F : Fp} {x : RS}
theorem RqO.cpus (h : RqO b w F x) : 1 ≤ x.length ∧ x.length ≤ 64 := by
  obtain ⟨g, k⟩ := h.I
  exact k.cpus
theorem more_ok (u v : Int) (w : World) : Calls Tryd.prog 42 #[.int .i64 u, .int .i64 v] w fun e w' => e = .returned (.bool (gtB u v)) ∧ w' = w := by
  refine u42 ?_
  rw [t42]
  exact ⟨rfl, rfl⟩
theorem less_ok (u v : Int) (w : World) : Calls Tryd.prog 44 #[.int .i64 u, .int .i64 v] w fun e w' => e = .returned (.bool (ltB u v)) ∧ w' = w := by
  refine u44 ?_
  rw [t44]
  exact ⟨rfl, rfl⟩
theorem rqbest1_ok (h : RqO b w F x) (hTab : Tab w) (m : BV) : Calls Tryd.prog 41 #[.pointer (some ⟨b, 0, none⟩), .int .u64 (mi m), .func (.func 42) #[] #[]] w fun e w' => e = .returned (.tuple #[.int .i64 (bestQ (rqLoadE x) gtB (upto (hs m) x.length)).1, .int .i64 (bestQ (rqLoadE x) gtB (upto (hs m) x.length)).2]) ∧ Upd no w w' := by
  obtain ⟨r, g, hx, hi⟩ := id h
  obtain ⟨p, c, hB⟩ := rqx_blk hx
  refine u41 ?_
  rw [t41]
  refine ⟨fun g => by simp at g, fun _ => ⟨_, rfl, _, _, _, hB.cell rfl, ⟨(mUpto_ok _ w).mono ?_⟩⟩⟩
  rintro e w1 ⟨rfl, rfl⟩
  refine ⟨_, rfl, ⟨(mAnd_ok m _ w1).mono ?_⟩⟩
  rintro e w1 ⟨rfl, rfl⟩
  refine ⟨_, rfl, ⟨(mList_ok _ hTab).mono ?_⟩⟩
  rw [cs_low_of m hi.cpus.2]
  have hlt : (upto (hs m) x.length).length ≤ x.length := upto_length _ _
  have hcp := hi.cpus
  generalize upto (hs m) x.length = l at hlt ⊢
  rintro e w2 ⟨p2, c2, rfl, hL⟩
  have h2 : RqO b w2 F x := (Frame.rq b).upd h hL.U (fun _ _ h => h)
  have hC := hL.S.cells
  have hU := hL.U
  clear hL
  cases l with
  | nil => exact ⟨_, _, _, rfl, fun _ => ⟨rfl, hU⟩, fun g => by simp at g⟩
  | cons v t =>
    refine ⟨_, _, _, rfl, fun g => by simp at g; omega, fun _ => ⟨⟨by omega, by simp⟩, ?_⟩⟩
    obtain ⟨a, ha, hc⟩ := hC.at1 (i := 0) (by simp)
    refine ⟨a, ha, _, hc, ?_⟩
    have hlc : (v :: t).length = t.length + 1 := rfl
    refine ⟨WP_loop okProg (M := M41) (σ := Nat) (fun j => e41_1 (some ⟨b, 0, none⟩) ((bestF (rqLoadE x) gtB ((v :: t).take j)).getD v) p2 (v :: t).length c2 ((v :: t).length : Int) (j : Int)) (fun j w' => j ≤ (v :: t).length ∧ w' = w2) (fun j _ => (v :: t).length - j) 0 ⟨rfl, rfl, rfl, rfl, rfl, rfl, trivial⟩ ⟨by omega, rfl⟩ ?_⟩
    rintro j w3 ⟨j1, rfl⟩
    rw [t41_1]
    refine ⟨fun g => ?_, fun g => ?_⟩
    · have hj : j < (v :: t).length := by simp at g ⊢; omega
      obtain ⟨a, ha, hc⟩ := hC.at1 hj
      refine ⟨⟨by omega, by omega⟩, a, ha, _, hc, ⟨(rqload_ok h2 _).mono ?_⟩⟩
      rintro e w4 ⟨rfl, rfl⟩
      refine ⟨_, rfl, ⟨(rqload_ok h2 _).mono ?_⟩⟩
      rintro e w4 ⟨rfl, rfl⟩
      refine ⟨_, rfl, ⟨(more_ok _ _ _).mono ?_⟩⟩
      rintro e w4 ⟨rfl, rfl⟩
      have hs1 := bestF_snoc (rqLoadE x) gtB ((v :: t).take j) (v :: t)[j]
      rw [← List.take_succ_eq_append_getElem hj] at hs1
      have hstep : ((bestF (rqLoadE x) gtB ((v :: t).take (j + 1))).getD v) = if gtB (rqLoadE x (v :: t)[j]) (rqLoadE x ((bestF (rqLoadE x) gtB ((v :: t).take j)).getD v)) then (v :: t)[j] else ((bestF (rqLoadE x) gtB ((v :: t).take j)).getD v) := by
        rw [hs1]
        rcases bestF_in (rqLoadE x) gtB ((v :: t).take j) with ⟨k1, k2⟩ | ⟨a, _, k1⟩
        · have hj0 : j = 0 := by
            cases j with
            | zero => rfl
            | succ j => simp at k2
          subst hj0
          rw [k1]
          simp [stepB]
        · rw [k1]
          unfold stepB
          simp only [Option.getD_some]
          split <;> rfl
      refine ⟨_, rfl, fun g1 => ⟨j + 1, ⟨rfl, rfl, by rw [hstep, if_pos g1]; rfl, rfl, rfl, by rw [w64 (by omega)]; rfl, trivial⟩, ⟨by omega, rfl⟩, by omega⟩, fun g1 => ⟨j + 1, ⟨rfl, rfl, by rw [hstep, if_neg (by simp [g1])]; rfl, rfl, rfl, by rw [w64 (by omega)]; rfl, trivial⟩, ⟨by omega, rfl⟩, by omega⟩⟩
    · have : j = (v :: t).length := by simp at g ⊢; omega
      subst this
      rw [List.take_length]
      unfold bestQ
      rcases bestF_in (rqLoadE x) gtB (v :: t) with ⟨_, k2⟩ | ⟨a, _, k1⟩
      · cases k2
      · rw [k1]
        exact ⟨rfl, hU⟩
theorem rqbusy_ok (h : RqO b w F x) (hTab : Tab w) (m : BV) : Calls Tryd.prog 18 #[.pointer (some ⟨b, 0, none⟩), .int .u64 (mi m)] w fun e w' => e = .returned (.tuple #[.int .i64 (bestQ (rqLoadE x) gtB (upto (hs m) x.length)).1, .int .i64 (bestQ (rqLoadE x) gtB (upto (hs m) x.length)).2]) ∧ Upd no w w' := by
  refine u18 ?_
  rw [t18]
  refine ⟨(rqbest1_ok h hTab m).mono ?_⟩
  rintro e w1 ⟨rfl, hU⟩
  exact ⟨_, _, rfl, rfl, hU⟩
theorem rqbest2_ok (h : RqO b w F x) (hTab : Tab w) (m : BV) : Calls Tryd.prog 41 #[.pointer (some ⟨b, 0, none⟩), .int .u64 (mi m), .func (.func 44) #[] #[]] w fun e w' => e = .returned (.tuple #[.int .i64 (bestQ (rqLoadE x) ltB (upto (hs m) x.length)).1, .int .i64 (bestQ (rqLoadE x) ltB (upto (hs m) x.length)).2]) ∧ Upd no w w' := by
  obtain ⟨r, g, hx, hi⟩ := id h
  obtain ⟨p, c, hB⟩ := rqx_blk hx
  refine Fn2.u41 ?_
  rw [Fn2.t41]
  refine ⟨fun g => by simp at g, fun _ => ⟨_, rfl, _, _, _, hB.cell rfl, ⟨(mUpto_ok _ w).mono ?_⟩⟩⟩
  rintro e w1 ⟨rfl, rfl⟩
  refine ⟨_, rfl, ⟨(mAnd_ok m _ w1).mono ?_⟩⟩
  rintro e w1 ⟨rfl, rfl⟩
  refine ⟨_, rfl, ⟨(mList_ok _ hTab).mono ?_⟩⟩
  rw [cs_low_of m hi.cpus.2]
  have hlt : (upto (hs m) x.length).length ≤ x.length := upto_length _ _
  have hcp := hi.cpus
  generalize upto (hs m) x.length = l at hlt ⊢
  rintro e w2 ⟨p2, c2, rfl, hL⟩
  have h2 : RqO b w2 F x := (Frame.rq b).upd h hL.U (fun _ _ h => h)
  have hC := hL.S.cells
  have hU := hL.U
  clear hL
  cases l with
  | nil => exact ⟨_, _, _, rfl, fun _ => ⟨rfl, hU⟩, fun g => by simp at g⟩
  | cons v t =>
    refine ⟨_, _, _, rfl, fun g => by simp at g; omega, fun _ => ⟨⟨by omega, by simp⟩, ?_⟩⟩
    obtain ⟨a, ha, hc⟩ := hC.at1 (i := 0) (by simp)
    refine ⟨a, ha, _, hc, ?_⟩
    have hlc : (v :: t).length = t.length + 1 := rfl
    refine ⟨WP_loop okProg (M := Fn2.M41) (σ := Nat) (fun j => Fn2.e41_1 (some ⟨b, 0, none⟩) ((bestF (rqLoadE x) ltB ((v :: t).take j)).getD v) p2 (v :: t).length c2 ((v :: t).length : Int) (j : Int)) (fun j w' => j ≤ (v :: t).length ∧ w' = w2) (fun j _ => (v :: t).length - j) 0 ⟨rfl, rfl, rfl, rfl, rfl, rfl, trivial⟩ ⟨by omega, rfl⟩ ?_⟩
    rintro j w3 ⟨j1, rfl⟩
    rw [Fn2.t41_1]
    refine ⟨fun g => ?_, fun g => ?_⟩
    · have hj : j < (v :: t).length := by simp at g ⊢; omega
      obtain ⟨a, ha, hc⟩ := hC.at1 hj
      refine ⟨⟨by omega, by omega⟩, a, ha, _, hc, ⟨(rqload_ok h2 _).mono ?_⟩⟩
      rintro e w4 ⟨rfl, rfl⟩
      refine ⟨_, rfl, ⟨(rqload_ok h2 _).mono ?_⟩⟩
      rintro e w4 ⟨rfl, rfl⟩
      refine ⟨_, rfl, ⟨(less_ok _ _ _).mono ?_⟩⟩
      rintro e w4 ⟨rfl, rfl⟩
      have hs1 := bestF_snoc (rqLoadE x) ltB ((v :: t).take j) (v :: t)[j]
      rw [← List.take_succ_eq_append_getElem hj] at hs1
      have hstep : ((bestF (rqLoadE x) ltB ((v :: t).take (j + 1))).getD v) = if ltB (rqLoadE x (v :: t)[j]) (rqLoadE x ((bestF (rqLoadE x) ltB ((v :: t).take j)).getD v)) then (v :: t)[j] else ((bestF (rqLoadE x) ltB ((v :: t).take j)).getD v) := by
        rw [hs1]
        rcases bestF_in (rqLoadE x) ltB ((v :: t).take j) with ⟨k1, k2⟩ | ⟨a, _, k1⟩
        · have hj0 : j = 0 := by
            cases j with
            | zero => rfl
            | succ j => simp at k2
          subst hj0
          rw [k1]
          simp [stepB]
        · rw [k1]
          unfold stepB
          simp only [Option.getD_some]
          split <;> rfl
      refine ⟨_, rfl, fun g1 => ⟨j + 1, ⟨rfl, rfl, by rw [hstep, if_pos g1]; rfl, rfl, rfl, by rw [w64 (by omega)]; rfl, trivial⟩, ⟨by omega, rfl⟩, by omega⟩, fun g1 => ⟨j + 1, ⟨rfl, rfl, by rw [hstep, if_neg (by simp [g1])]; rfl, rfl, rfl, by rw [w64 (by omega)]; rfl, trivial⟩, ⟨by omega, rfl⟩, by omega⟩⟩
    · have : j = (v :: t).length := by simp at g ⊢; omega
      subst this
      rw [List.take_length]
      unfold bestQ
      rcases bestF_in (rqLoadE x) ltB (v :: t) with ⟨_, k2⟩ | ⟨a, _, k1⟩
      · cases k2
      · rw [k1]
        exact ⟨rfl, hU⟩
theorem rqidle_ok (h : RqO b w F x) (hTab : Tab w) (m : BV) : Calls Tryd.prog 20 #[.pointer (some ⟨b, 0, none⟩), .int .u64 (mi m)] w fun e w' => e = .returned (.tuple #[.int .i64 (bestQ (rqLoadE x) ltB (upto (hs m) x.length)).1, .int .i64 (bestQ (rqLoadE x) ltB (upto (hs m) x.length)).2]) ∧ Upd no w w' := by
  refine u20 ?_
  rw [t20]
  refine ⟨(rqbest2_ok h hTab m).mono ?_⟩
  rintro e w1 ⟨rfl, hU⟩
  exact ⟨_, _, rfl, rfl, hU⟩
end
end Go.Dav
