/- Rows of records of several cells. -/
import Derived.Test.YtfmehojcgdfghaaDoorMk
import Derived.Test.YtfmehojcgdfghaaDoorBits
set_option linter.unusedSimpArgs false
set_option linter.unusedVariables false
namespace Go.Dav

theorem flat_len {α : Type} {f : α → List Value} {sz : Nat} (hf : ∀ x, (f x).length = sz) (l : List α) : (l.flatMap f).length = l.length * sz := by
  induction l with
  | nil => simp
  | cons x l ih => rw [List.flatMap_cons, List.length_append, hf, ih, List.length_cons, Nat.add_mul, Nat.one_mul, Nat.add_comm]

/-- A part of one record is written. -/
theorem setL_flat {α : Type} {f : α → List Value} {sz : Nat} (hf : ∀ x, (f x).length = sz) : ∀ {l : List α} {k o : Nat} {vs : List Value} {x : α} (hk : k < l.length), o + vs.length ≤ sz → f x = setL (f l[k]) o vs →
    setL (l.flatMap f) (k * sz + o) vs = (l.set k x).flatMap f
  | y :: l, 0, o, vs, x, _, ho, hx => by
    have hy := hf y
    simp only [List.flatMap_cons, Nat.zero_mul, Nat.zero_add, List.set_cons_zero]
    rw [hx]
    simp only [List.getElem_cons_zero]
    unfold setL
    apply List.ext_getElem?
    intro j
    simp only [List.getElem?_append, List.getElem?_take, List.getElem?_drop, List.length_append, List.length_take, List.length_drop, hy]
    grind
  | y :: l, k + 1, o, vs, x, hk, ho, hx => by
    have hy := hf y
    simp only [List.flatMap_cons, List.set_cons_succ]
    have ih := setL_flat hf (l := l) (k := k) (o := o) (vs := vs) (x := x) (by simpa using hk) ho (by simpa using hx)
    rw [← ih]
    unfold setL
    have e1 : (k + 1) * sz + o = sz + (k * sz + o) := by rw [Nat.add_mul, Nat.one_mul]; omega
    rw [e1]
    apply List.ext_getElem?
    intro j
    simp only [List.getElem?_append, List.getElem?_take, List.getElem?_drop, List.length_append, List.length_take, hy]
    generalize k * sz + o = u
    grind
theorem setL_app {a b vs : List Value} {o : Nat} (h : o + vs.length ≤ a.length) : setL (a ++ b) o vs = setL a o vs ++ b := by
  unfold setL
  apply List.ext_getElem?
  intro j
  simp only [List.getElem?_append, List.getElem?_take, List.getElem?_drop, List.length_append, List.length_take, List.length_drop]
  grind
theorem flat_slice {α : Type} {f : α → List Value} {sz : Nat} (hf : ∀ x, (f x).length = sz) {l : List α} {k : Nat} (hk : k < l.length) : ((l.flatMap f).drop (k * sz)).take sz = f l[k] := by
  apply List.ext_getElem?
  intro j
  rw [List.getElem?_take, List.getElem?_drop]
  by_cases hj : j < sz
  · rw [if_pos hj]
    have hv : (f l[k])[j]? = some ((f l[k])[j]'(by rw [hf]; exact hj)) := by simp [hf, hj]
    rw [hv]
    exact flat_at hf hk hv
  · rw [if_neg hj, List.getElem?_eq_none (by rw [hf]; omega)]
end Go.Dav
