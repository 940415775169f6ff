/- A list of one-cell things: one more at its end. -/
import Derived.Test.YtfmehojcgdfghaaDoorMk
import Derived.Test.YtfmehojcgdfghaaDoorRing
import Derived.Test.YtfmehojcgdfghaaDoorRec
set_option linter.unusedSimpArgs false
set_option linter.unusedVariables false
namespace Go.Dav
/-- One more at the end of an owned slice of one-cell things. -/
theorem append1v {P : Program} {t e : TypeId} {bytes : Nat} {z : List Value} (he : ElemT P t e 1 bytes z) {w w1 : World} {p : Option Addr} {n c : Nat} {cs : List Value} {v : Value} (hv : v.oneCell' = true) (h : Sl w e 1 p n c cs) (hb : (n + 1) * bytes ≤ 140737488355328) (hl : n ≤ 1048576)
    {T : TypeId} (hN : Newed w w1 (.cells (List.toArray [v]) T (0, 0))) (ty : TypeId) :
    ∃ p' c' w2, (Builtin.append_ #[t, t] ty #[.slice p n c, .slice (some ⟨w.heap.size, 0, none⟩) 1 1]).run P w1 = .ok (.slice p' (n + 1) c') w2 ∧ Sl w2 e 1 p' (n + 1) c' (cs ++ [v]) ∧ Upd (fpS p) w w2 ∧ (∀ i, fpS p' i → fpS p i ∨ w.heap.size ≤ i) := by
  have h1 := h.upd (hN.upd no) (fun _ _ hn => hn)
  have hN' : Sl w1 T 1 (some ⟨w.heap.size, 0, none⟩) 1 1 [v] := Sl.new hN (by simp) (by unfold maxLen; omega)
  obtain ⟨p', n', c', w2, hr, hn, hS, hU, hF⟩ := run_append he h1 hN'.cells (m := 1) (d := 1) (by simp) (by simpa using hv) (by simp) hb (by omega) ty
  refine ⟨p', c', w2, by rw [hr, hn], hS, (hN.upd _).trans hU (fun i _ hi => hi), fun i hi => (hF i hi).imp id (fun h => ?_)⟩
  rw [hN.size] at h; omega
section
variable {α : Type} {f : α → Value}
theorem Lv.nil (w : World) (T : TypeId) : Lv T f w (fun _ => False) (none, 0, []) := ⟨fun i => ⟨fun h => h.elim, fun ⟨a, ha, _⟩ => by cases ha⟩, Sl.nil _ _ _⟩
theorem Lv.push {P : Program} {t T T' : TypeId} {bytes : Nat} {z : List Value} (he : ElemT P t T 1 bytes z) (hf : ∀ x, (f x).oneCell' = true) {w w1 : World} {F : Fp} {p : Option Addr} {c : Nat} {l : List α} {x : α} (h : Lv T f w F (p, c, l)) (hb : (l.length + 1) * bytes ≤ 140737488355328) (hl : l.length ≤ 1048576)
    (hN : Newed w w1 (.cells (List.toArray [f x]) T' (0, 0))) (ty : TypeId) :
    ∃ p' c' w2, (Builtin.append_ #[t, t] ty #[.slice p l.length c, .slice (some ⟨w.heap.size, 0, none⟩) 1 1]).run P w1 = .ok (.slice p' (l ++ [x]).length c') w2 ∧ Turn (Lv T f) w w2 F (p', c', l ++ [x]) := by
  have h1 : Sl w1 T 1 p l.length c (l.map f) := h.2.upd (hN.upd no) (fun _ _ hn => hn)
  have hN' : Sl w1 T' 1 (some ⟨w.heap.size, 0, none⟩) 1 1 [f x] := Sl.new hN (by simp) (by unfold maxLen; omega)
  obtain ⟨p', n', c', w2, hr, hn, hS, hU, hF⟩ := run_append he h1 hN'.cells (m := 1) (d := 1) (by simp) (by simpa using hf x) (by simp) hb (by omega) ty
  refine ⟨p', c', w2, by rw [hr, hn]; simp, fpS p', ⟨fun _ => Iff.rfl, by simpa using hS⟩, (hN.upd _).trans (hU.mono (fun i _ hi => (h.1 i).2 hi)) (fun i _ hi => hi), fun i hi => (hF i hi).imp (fun k => (h.1 i).2 k) (fun h => ?_)⟩
  rw [hN.size] at h; omega
/-- One of its things. -/
theorem Lv.at {T : TypeId} {w : World} {F : Fp} {p : Option Addr} {c : Nat} {l : List α} (h : Lv T f w F (p, c, l)) {i : Nat} (hi : i < l.length) : ∃ a, p = some a ∧ w.cell? (a.add (i * 1)) = some (f l[i]) := h.2.cells.at1 hi
/-- One of its things is written. -/
theorem Lv.wr {T : TypeId} {w : World} {F : Fp} {p : Option Addr} {c : Nat} {l : List α} (h : Lv T f w F (p, c, l)) {i : Nat} (hi : i < l.length) {v : α} {K : World → Prop} (hK : ∀ w', Turn (Lv T f) w w' F (p, c, l.set i v) → K w') :
    ∃ a, p = some a ∧ Wr w (a.add (i * 1)) [f v] K := by
  obtain ⟨a, ha, _⟩ := h.at hi
  subst ha
  refine ⟨a, rfl, h.2.wr (o := i * 1) (by simp; omega) fun w' hS hU => hK w' ⟨F, ⟨h.1, ?_⟩, hU.mono (fun i _ hi => (h.1 i).2 hi), fun _ hi => .inl hi⟩⟩
  rw [Nat.mul_one, setL_set hi] at hS
  simpa using hS
end
/-- No object. -/
def Non : Ob Unit := fun _ F _ => ∀ i, ¬ F i
instance Frame.non : Frame Non where
  upd := fun h _ _ => h
  lt := fun h i hi => absurd hi (h i)
theorem Mine.non (W : World) : Mine W W Non () := ⟨fun _ => False, fun _ h => h, Upd.refl _ _, fun _ h => h.elim⟩
end Go.Dav
