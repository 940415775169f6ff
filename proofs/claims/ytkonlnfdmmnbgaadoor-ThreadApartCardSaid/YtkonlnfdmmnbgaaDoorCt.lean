/- How often a number stands in lists. -/
import Derived.Test.YtkonlnfdmmnbgaaDoorTq
set_option linter.unusedSimpArgs false
set_option linter.unusedVariables false
set_option linter.unusedVariables false
namespace Go.Dav
def ct (L : List (List Int)) (v : Int) : Nat := L.flatten.count v
theorem ct_set {L : List (List Int)} {i : Nat} (hi : i < L.length) (l' : List Int) (v : Int) : ct (L.set i l') v + L[i].count v = ct L v + l'.count v := by
  unfold ct
  induction L generalizing i with
  | nil => simp at hi
  | cons l L ih =>
    cases i with
    | zero => simp only [List.set_cons_zero, List.flatten_cons, List.count_append, List.getElem_cons_zero]; omega
    | succ i =>
      have := ih (i := i) (by simpa using hi)
      simp only [List.set_cons_succ, List.flatten_cons, List.count_append, List.getElem_cons_succ]
      omega
theorem ct_le {L : List (List Int)} {i : Nat} (hi : i < L.length) (v : Int) : L[i].count v ≤ ct L v := by
  have := ct_set hi [] v
  simp at this
  omega
theorem ct_mem {L : List (List Int)} {i : Nat} (hi : i < L.length) {v : Int} (h : v ∈ L[i]) : 0 < ct L v := Nat.lt_of_lt_of_le (List.count_pos_iff.2 h) (ct_le hi v)
theorem ct_any (L : List (List Int)) (v : Int) : L.any (fun l => decide (v ∈ l)) = decide (0 < ct L v) := by
  unfold ct
  rw [Bool.eq_iff_iff, List.any_eq_true, decide_eq_true_eq, List.count_pos_iff, List.mem_flatten]
  simp
theorem ct_new (n : Nat) (v : Int) : ct (List.replicate n []) v = 0 := by
  unfold ct
  rw [List.count_flatten]
  simp
theorem ct_nodup {L : List (List Int)} (h : ∀ v, ct L v ≤ 1) {i : Nat} (hi : i < L.length) : L[i].Nodup := List.nodup_iff_count.2 fun v => Nat.le_trans (ct_le hi v) (h v)
/-- Numbers from 1 to m, each once, are at most m. -/
theorem few {l : List Int} {m : Nat} (hn : l.Nodup) (h : ∀ v ∈ l, 1 ≤ v ∧ v ≤ m) : l.length ≤ m := by
  have := hn.length_le_of_subset (l₂ := (List.range m).map (fun (k : Nat) => (k : Int) + 1)) (fun v hv => by
    obtain ⟨h1, h2⟩ := h v hv
    rw [List.mem_map]
    exact ⟨v.toNat - 1, by simp; omega, by omega⟩)
  simpa using this
theorem add00' (b k : Nat) : Addr.add (Addr.add ⟨b, 0, none⟩ 0) k = (⟨b, 0, none⟩ : Addr).add k := by rw [add_lit b 0 0]
end Go.Dav
