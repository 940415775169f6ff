/- A ring of numbers, and the list that it stands for. -/
import Derived.Test.YtfmehojcgdfghaaDoorObj
set_option linter.unusedSimpArgs false
set_option linter.unusedVariables false
namespace Go.Dav

structure Ring where
  r : List Int
  f : Nat
  m : Nat
structure Ring.ok (g : Ring) : Prop where
  pos : 0 < g.r.length
  le : g.r.length ≤ 1024
  f : g.f < g.r.length
  m : g.m ≤ g.r.length
/-- The place of the k-th one. -/
def pl (c f k : Nat) : Nat := if f + k < c then f + k else f + k - c
theorem pl_mod {c f k : Nat} (hf : f < c) (hk : k ≤ c) : (f + k) % c = pl c f k := by
  unfold pl
  split
  · exact Nat.mod_eq_of_lt (by assumption)
  · rw [Nat.mod_eq_sub_mod (by omega), Nat.mod_eq_of_lt (by omega)]
theorem pl_lt {c f k : Nat} (hf : f < c) (hk : k ≤ c) : pl c f k < c := by unfold pl; split <;> omega
theorem pl_inj {c f k j : Nat} (hk : k < c) (hj : j < c) (h : pl c f k = pl c f j) : k = j := by unfold pl at h; split at h <;> split at h <;> omega

def view (g : Ring) : List Int := (List.range g.m).map (fun k => g.r.getD (pl g.r.length g.f k) 0)
theorem view_length (g : Ring) : (view g).length = g.m := by simp [view]
theorem view_get (g : Ring) {k : Nat} (h : k < g.m) : (view g)[k]'(by rw [view_length]; exact h) = g.r.getD (pl g.r.length g.f k) 0 := by simp [view]
theorem view_get? (g : Ring) (k : Nat) : (view g)[k]? = if k < g.m then some (g.r.getD (pl g.r.length g.f k) 0) else none := by
  split
  · rename_i h
    rw [List.getElem?_eq_getElem (by rw [view_length]; exact h), view_get g h]
  · exact List.getElem?_eq_none (by rw [view_length]; omega)

/-- One is set. -/
theorem view_set {g : Ring} (h : g.ok) {i : Nat} (hi : i < g.r.length) (v : Int) {m : Nat} (hm : m ≤ g.r.length) :
    view ⟨g.r.set (pl g.r.length g.f i) v, g.f, m⟩ = (view ⟨g.r, g.f, m⟩).set i v := by
  apply List.ext_getElem?
  intro k
  rw [view_get?, List.getElem?_set, view_get?, view_length]
  simp only [List.length_set]
  by_cases hk : k < m
  · simp only [hk, if_true]
    by_cases hik : i = k
    · subst hik
      simp [hk, List.getD_eq_getElem?_getD, pl_lt h.f (Nat.le_of_lt hi)]
    · rw [if_neg hik]
      have : pl g.r.length g.f i ≠ pl g.r.length g.f k := fun e => hik (pl_inj hi (by omega) e)
      simp [List.getD_eq_getElem?_getD, this]
  · simp only [hk, if_false]
    by_cases hik : i = k
    · rw [if_pos hik, if_neg (by omega)]
    · rw [if_neg hik]

theorem view_more (r : List Int) (f m : Nat) : view ⟨r, f, m + 1⟩ = view ⟨r, f, m⟩ ++ [r.getD (pl r.length f m) 0] := by
  simp [view, List.range_succ]

theorem view_push {g : Ring} (h : g.ok) (hm : g.m < g.r.length) (v : Int) : view ⟨g.r.set (pl g.r.length g.f g.m) v, g.f, g.m + 1⟩ = view g ++ [v] := by
  rw [view_more, List.length_set, view_set h hm v h.m]
  have e1 : (view ⟨g.r, g.f, g.m⟩).set g.m v = view g := by
    apply List.set_eq_of_length_le
    rw [view_length]
    exact Nat.le_refl _
  rw [e1]
  simp [List.getD_eq_getElem?_getD, pl_lt h.f h.m]

theorem view_pop {g : Ring} (h : g.ok) (hm : 0 < g.m) : view g = g.r.getD g.f 0 :: view ⟨g.r, pl g.r.length g.f 1, g.m - 1⟩ := by
  apply List.ext_getElem?
  intro k
  have hf := h.f
  have h2 := h.m
  cases k with
  | zero =>
    rw [view_get?, if_pos hm]
    have : pl g.r.length g.f 0 = g.f := by unfold pl; split <;> omega
    rw [this]
    rfl
  | succ k =>
    rw [List.getElem?_cons_succ, view_get?, view_get?]
    by_cases hk : k + 1 < g.m
    · rw [if_pos hk, if_pos (show k < g.m - 1 by omega)]
      have : pl g.r.length g.f (k + 1) = pl g.r.length (pl g.r.length g.f 1) k := by
        have hp := h.pos
        unfold pl
        split <;> split <;> split <;> omega
      rw [this]
    · rw [if_neg hk, if_neg (show ¬ k < g.m - 1 by omega)]

theorem view_fresh (n : Nat) : view ⟨List.replicate n 0, 0, 0⟩ = [] := rfl
theorem view_front {g : Ring} (h : g.ok) {x : Int} {l : List Int} (hv : view g = x :: l) : 0 < g.m ∧ g.r.getD g.f 0 = x ∧ view ⟨g.r, pl g.r.length g.f 1, g.m - 1⟩ = l := by
  have hm : 0 < g.m := by
    have := view_length g
    rw [hv] at this
    simp at this
    omega
  rw [view_pop h hm] at hv
  simp only [List.cons.injEq] at hv
  exact ⟨hm, hv.1, hv.2⟩

/-- Less at its end. -/
theorem view_less (r : List Int) (f : Nat) {m k : Nat} (h : k ≤ m) : view ⟨r, f, k⟩ = (view ⟨r, f, m⟩).take k := by
  unfold view
  rw [← List.map_take, List.take_range, Nat.min_eq_left h]

/-- What two copies out of the ring come to. -/
theorem ring_copy {g : Ring} (h : g.ok) (f : Int → Value) : 
    setL (((g.r.map f).drop g.f).take (min (g.r.length - g.f) g.m) ++ ((List.replicate g.m (0 : Int)).map f).drop (min (g.r.length - g.f) g.m)) (min (g.r.length - g.f) g.m)
      ((g.r.map f).take (min g.r.length (g.m - min (g.r.length - g.f) g.m))) = (view g).map f := by
  have hf := h.f
  have hm := h.m
  apply List.ext_getElem?
  intro k
  generalize hn : min (g.r.length - g.f) g.m = n
  have hn2 : min g.r.length (g.m - n) = g.m - n := by omega
  rw [hn2, List.getElem?_map, view_get?]
  unfold setL
  simp only [List.getElem?_append, List.getElem?_take, List.getElem?_drop, List.getElem?_map, List.getElem?_replicate, List.length_append, List.length_take, List.length_drop, List.length_map, List.length_replicate]
  by_cases hk : k < g.m
  · rw [if_pos hk]
    by_cases hkn : k < n
    · have hp : pl g.r.length g.f k = g.f + k := by unfold pl; split <;> omega
      have h1 : g.f + k < g.r.length := by omega
      simp [hkn, hp, List.getD_eq_getElem?_getD, h1]
      grind
    · have hp : pl g.r.length g.f k = k - n := by unfold pl; split <;> omega
      have h1 : k - n < g.r.length := by omega
      simp [hp, List.getD_eq_getElem?_getD, h1]
      grind
  · rw [if_neg hk]
    simp
    grind
/-- One cell is written. -/
theorem setL_set {α : Type} {f : α → Value} {r : List α} {k : Nat} (h : k < r.length) {v : α} : setL (r.map f) k [f v] = (r.set k v).map f := by
  unfold setL
  rw [List.map_set]
  apply List.ext_getElem?
  intro j
  simp only [List.getElem?_append, List.getElem?_take, List.getElem?_drop, List.getElem?_set, List.length_append, List.length_take, List.length_map, List.length_cons, List.length_nil]
  grind
end Go.Dav
