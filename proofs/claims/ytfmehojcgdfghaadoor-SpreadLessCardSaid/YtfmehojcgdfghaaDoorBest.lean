/- Of some numbers the one that has most, or least. -/
import Derived.Test.YtfmehojcgdfghaaDoorBits
set_option linter.unusedSimpArgs false
set_option linter.unusedVariables false
namespace Go.Dav
def stepB (ld : Int → Int) (gt : Int → Int → Bool) (o : Option Int) (c : Int) : Option Int := match o with
  | none => some c
  | some a => if gt (ld c) (ld a) then some c else some a
/-- Of some the first one that is better than those ahead of it, and not worse than the others. -/
def bestF (ld : Int → Int) (gt : Int → Int → Bool) (l : List Int) : Option Int := l.foldl (stepB ld gt) none
theorem bestF_snoc (ld : Int → Int) (gt : Int → Int → Bool) (l : List Int) (c : Int) : bestF ld gt (l ++ [c]) = stepB ld gt (bestF ld gt l) c := by
  unfold bestF
  rw [List.foldl_append]
  rfl
theorem bestF_in (ld : Int → Int) (gt : Int → Int → Bool) (l : List Int) : (bestF ld gt l = none ∧ l = []) ∨ ∃ a ∈ l, bestF ld gt l = some a := by
  have h : ∀ (l : List Int) (o : Option Int), (l.foldl (stepB ld gt) o = none ∧ l = []) ∨ ∃ a, (a ∈ l ∨ o = some a) ∧ l.foldl (stepB ld gt) o = some a := by
    intro l
    induction l with
    | nil => intro o; cases o with
      | none => exact .inl ⟨rfl, rfl⟩
      | some a => exact .inr ⟨a, .inr rfl, rfl⟩
    | cons c l ih =>
      intro o
      right
      rw [List.foldl_cons]
      rcases ih (stepB ld gt o c) with ⟨k1, k2⟩ | ⟨a, k1, k2⟩
      · subst k2
        exfalso
        simp only [List.foldl_nil] at k1
        unfold stepB at k1
        split at k1
        · cases k1
        · split at k1 <;> cases k1
      · refine ⟨a, ?_, k2⟩
        rcases k1 with k1 | k1
        · exact .inl (List.mem_cons_of_mem _ k1)
        · unfold stepB at k1
          split at k1
          · exact .inl (by have := Option.some.inj k1; rw [this]; exact List.mem_cons_self)
          · split at k1
            · exact .inl (by have := Option.some.inj k1; rw [this]; exact List.mem_cons_self)
            · exact .inr k1
  rcases h l none with ⟨k1, k2⟩ | ⟨a, k1, k2⟩
  · exact .inl ⟨k1, k2⟩
  · exact .inr ⟨a, k1.resolve_right (by simp), k2⟩
def bestQ (ld : Int → Int) (gt : Int → Int → Bool) (l : List Int) : Int × Int := match bestF ld gt l with
  | none => (0, 12)
  | some a => (a, 0)
def gtB (a b : Int) : Bool := decide (a > b)
def ltB (a b : Int) : Bool := decide (a < b)
def gtOf (most : Bool) : Int → Int → Bool := if most then gtB else ltB
theorem bestF_gt {ld : Int → Int} {l : List Int} {a : Int} (h : bestF ld gtB l = some a) : ∀ c ∈ l, ld c ≤ ld a := by
  have hg : ∀ (l : List Int) (o : Option Int) (a : Int), l.foldl (stepB ld gtB) o = some a → (∀ c ∈ l, ld c ≤ ld a) ∧ ∀ b, o = some b → ld b ≤ ld a := by
    intro l
    induction l with
    | nil =>
      intro o a h
      simp only [List.foldl_nil] at h
      subst h
      exact ⟨fun _ h => (by cases h), fun b hb => by cases hb; exact Int.le_refl _⟩
    | cons c l ih =>
      intro o a h
      rw [List.foldl_cons] at h
      obtain ⟨k1, k2⟩ := ih _ _ h
      have hc : ld c ≤ ld a ∧ ∀ b, o = some b → ld b ≤ ld a := by
        unfold stepB at k2
        cases o with
        | none => exact ⟨k2 c rfl, fun b hb => by cases hb⟩
        | some b =>
          simp only at k2
          by_cases hgt : gtB (ld c) (ld b) = true
          · rw [if_pos hgt] at k2
            have h1 := k2 c rfl
            have h2 := of_decide_eq_true hgt
            exact ⟨h1, fun b' hb => by cases hb; omega⟩
          · rw [if_neg hgt] at k2
            have h1 := k2 b rfl
            have h2 : ¬ ld c > ld b := fun h => hgt (decide_eq_true h)
            exact ⟨by omega, fun b' hb => by cases hb; exact h1⟩
      exact ⟨fun d hd => (List.mem_cons.1 hd).elim (fun e => e ▸ hc.1) (k1 d), hc.2⟩
  exact (hg l none a h).1
theorem bestF_lt {ld : Int → Int} {l : List Int} {a : Int} (h : bestF ld ltB l = some a) : ∀ c ∈ l, ld a ≤ ld c := by
  have hg : ∀ (l : List Int) (o : Option Int) (a : Int), l.foldl (stepB ld ltB) o = some a → (∀ c ∈ l, ld a ≤ ld c) ∧ ∀ b, o = some b → ld a ≤ ld b := by
    intro l
    induction l with
    | nil =>
      intro o a h
      simp only [List.foldl_nil] at h
      subst h
      exact ⟨fun _ h => (by cases h), fun b hb => by cases hb; exact Int.le_refl _⟩
    | cons c l ih =>
      intro o a h
      rw [List.foldl_cons] at h
      obtain ⟨k1, k2⟩ := ih _ _ h
      have hc : ld a ≤ ld c ∧ ∀ b, o = some b → ld a ≤ ld b := by
        unfold stepB at k2
        cases o with
        | none => exact ⟨k2 c rfl, fun b hb => by cases hb⟩
        | some b =>
          simp only at k2
          by_cases hgt : ltB (ld c) (ld b) = true
          · rw [if_pos hgt] at k2
            have h1 := k2 c rfl
            have h2 := of_decide_eq_true hgt
            exact ⟨h1, fun b' hb => by cases hb; omega⟩
          · rw [if_neg hgt] at k2
            have h1 := k2 b rfl
            have h2 : ¬ ld c < ld b := fun h => hgt (decide_eq_true h)
            exact ⟨by omega, fun b' hb => by cases hb; exact h1⟩
      exact ⟨fun d hd => (List.mem_cons.1 hd).elim (fun e => e ▸ hc.1) (k1 d), hc.2⟩
  exact (hg l none a h).1
theorem bestF_congr {ld ld' : Int → Int} {gt : Int → Int → Bool} {l : List Int} (h : ∀ c ∈ l, ld c = ld' c) : bestF ld gt l = bestF ld' gt l := by
  have hg : ∀ (l : List Int) (o : Option Int), (∀ c ∈ l, ld c = ld' c) → (∀ b, o = some b → ld b = ld' b) → l.foldl (stepB ld gt) o = l.foldl (stepB ld' gt) o := by
    intro l
    induction l with
    | nil => intro _ _ _; rfl
    | cons c l ih =>
      intro o h1 h2
      have e : stepB ld gt o c = stepB ld' gt o c := by
        cases o with
        | none => rfl
        | some b => unfold stepB; simp only; rw [h1 c (by simp), h2 b rfl]
      rw [List.foldl_cons, List.foldl_cons, ← e]
      refine ih _ (fun d hd => h1 d (by simp [hd])) (fun b hb => ?_)
      cases o with
      | none => cases hb; exact h1 _ (by simp)
      | some b' =>
        unfold stepB at hb
        simp only at hb
        split at hb
        · cases hb; exact h1 _ (by simp)
        · cases hb; exact h2 _ rfl
  exact hg l none h (fun _ h => by cases h)
end Go.Dav
