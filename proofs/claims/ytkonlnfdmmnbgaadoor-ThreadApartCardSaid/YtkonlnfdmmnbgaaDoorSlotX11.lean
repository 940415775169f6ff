/- More on numbers that are given out. -/
import Derived.Test.YtkonlnfdmmnbgaaDoorSlot11
set_option linter.unusedSimpArgs false
set_option linter.unusedVariables false
namespace Go.Dav
theorem hasE_set {o : List Bool} {k : Nat} (hk : k < o.length) (v : Bool) (n : Int) : hasE (o.set k v) n = if n = (k : Int) + 1 then v else hasE o n := by
  unfold hasE
  by_cases h1 : 1 ≤ n
  · rw [if_pos h1, if_pos h1]
    by_cases hn : n = (k : Int) + 1
    · subst hn
      have e1 : ((k : Int) + 1).toNat - 1 = k := by omega
      rw [if_pos rfl, e1]
      simp [List.getD_eq_getElem?_getD, hk]
    · rw [if_neg hn]
      have : k ≠ n.toNat - 1 := by omega
      simp [List.getD_eq_getElem?_getD, this]
  · rw [if_neg h1, if_neg h1, if_neg (by omega)]
theorem give_has {o : List Bool} {n : Int} (h : hasE o n = true) : giveE o n = 0 ∧ ∀ v, hasE (giveS o n) v = (hasE o v && decide (v ≠ n)) := by
  obtain ⟨h1, h2⟩ := hasE_in h
  refine ⟨by rw [giveE, if_pos h], fun v => ?_⟩
  rw [giveS, if_pos h, hasE_set (by omega)]
  by_cases hv : v = n
  · rw [if_pos (by omega), hv]; simp
  · rw [if_neg (by omega), decide_eq_true (show v ≠ n from hv), Bool.and_true]
theorem take_of {o : List Bool} {j : Nat} (hj : j < o.length) (h1 : ∀ k, k < j → hasE o ((k : Int) + 1) = true) (h2 : hasE o ((j : Int) + 1) = false) : takeE o = ((j : Int) + 1, 0) ∧ takeS o = o.set j true := by
  have hf : o.findIdx? (fun x => !x) = some j := by
    rw [List.findIdx?_eq_some_iff_getElem]
    rw [hasE_of] at h2
    refine ⟨hj, by simpa [List.getD_eq_getElem?_getD, hj] using h2, fun k hk => ?_⟩
    have := h1 k hk
    rw [hasE_of] at this
    have hk2 : k < o.length := by omega
    simpa [List.getD_eq_getElem?_getD, hk2] using this
  unfold takeE takeS
  rw [hf]
  exact ⟨rfl, rfl⟩
theorem take_no {o : List Bool} (h1 : ∀ k, k < o.length → hasE o ((k : Int) + 1) = true) : takeE o = (0, 5) ∧ takeS o = o := by
  have hf : o.findIdx? (fun x => !x) = none := by
    rw [List.findIdx?_eq_none_iff]
    intro v hv
    obtain ⟨k, hk, rfl⟩ := List.getElem_of_mem hv
    have := h1 k hk
    rw [hasE_of] at this
    simpa [List.getD_eq_getElem?_getD, hk] using this
  unfold takeE takeS
  rw [hf]
  exact ⟨rfl, rfl⟩
/-- What Take gives. -/
theorem take_cases (o : List Bool) : (∃ j : Nat, j < o.length ∧ takeE o = ((j : Int) + 1, 0) ∧ takeS o = o.set j true ∧ hasE o ((j : Int) + 1) = false) ∨ (takeE o = (0, 5) ∧ takeS o = o) := by
  unfold takeE takeS
  cases hf : o.findIdx? (fun x => !x) with
  | none => exact .inr ⟨rfl, rfl⟩
  | some j =>
    obtain ⟨hj, h1, _⟩ := List.findIdx?_eq_some_iff_getElem.1 hf
    refine .inl ⟨j, hj, rfl, rfl, ?_⟩
    rw [hasE_of]
    simpa [List.getD_eq_getElem?_getD, hj] using h1

end Go.Dav
