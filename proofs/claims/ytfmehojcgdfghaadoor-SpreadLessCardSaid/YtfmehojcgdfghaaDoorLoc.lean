/- A call's own list of records; structs of plain fields, compared. -/
import Derived.Test.YtfmehojcgdfghaaDoorLv
import Derived.Test.YtfmehojcgdfghaaDoorRec
import Derived.Test.YtfmehojcgdfghaaDoorBits
import Derived.Laws.StructEq
set_option linter.unusedSimpArgs false
set_option linter.unusedVariables false
namespace Go.Dav

/-- A list of records that the call made itself. -/
structure LocR {α : Type} (f : α → List Value) (sz : Nat) (W w : World) (T : TypeId) (p : Option Addr) (c : Nat) (l : List α) : Prop where
  U : Upd no W w
  S : Sl w T sz p l.length c (l.flatMap f)
  F : ∀ i, fpS p i → W.heap.size ≤ i
section
variable {α : Type} {f : α → List Value} {sz : Nat} {W w w' : World} {T : TypeId} {p : Option Addr} {c : Nat} {l : List α}
theorem LocR.nil (h : Upd no W w) (T : TypeId) : LocR f sz W w T none 0 [] := ⟨h, Sl.nil _ _ _, fun i ⟨a, ha, _⟩ => by cases ha⟩
theorem LocR.upd (h : LocR f sz W w T p c l) (k : Upd no w w') : LocR f sz W w' T p c l := ⟨h.U.trans k (fun _ _ h => h), h.S.upd k (fun _ _ h => h), h.F⟩
/-- One more at the end of an owned slice of records. -/
theorem appendR {P : Program} {t e : TypeId} {bytes : Nat} {z : List Value} (he : ElemT P t e sz bytes z) {w w1 : World} {p : Option Addr} {n c : Nat} {cs v : List Value} (hv : ∀ u ∈ v, u.oneCell' = true) (hl : v.length = sz) (h : Sl w e sz p n c cs) (hb : (n + 1) * bytes ≤ 140737488355328) (hn : n ≤ 1048576)
    {T : TypeId} (hN : Newed w w1 (.cells v.toArray T (0, 0))) (ty : TypeId) :
    ∃ p' c' w2, (Builtin.append_ #[t, t] ty #[.slice p n c, .slice (some ⟨w.heap.size, 0, none⟩) 1 1]).run P w1 = .ok (.slice p' (n + 1) c') w2 ∧ Sl w2 e sz p' (n + 1) c' (cs ++ v) ∧ Upd (fpS p) w w2 ∧ (∀ i, fpS p' i → fpS p i ∨ w.heap.size ≤ i) := by
  have h1 := h.upd (hN.upd no) (fun _ _ hn => hn)
  have hN' : Sl w1 T sz (some ⟨w.heap.size, 0, none⟩) 1 1 v := Sl.new hN (by simp [hl]) (by unfold maxLen; omega)
  obtain ⟨p', n', c', w2, hr, hn, hS, hU, hF⟩ := run_append he h1 hN'.cells (m := 1) (d := 1) (by simp [hl]) hv (by simp) hb (by omega) ty
  refine ⟨p', c', w2, by rw [hr, hn], hS, (hN.upd _).trans hU (fun i _ hi => hi), fun i hi => (hF i hi).imp id (fun h => ?_)⟩
  rw [hN.size] at h; omega
theorem LocR.push {P : Program} {t : TypeId} {bytes : Nat} {z : List Value} (h : LocR f sz W w T p c l) (he : ElemT P t T sz bytes z) (hf : ∀ x, (f x).length = sz) (h1 : ∀ x, ∀ u ∈ f x, u.oneCell' = true) (hb : (l.length + 1) * bytes ≤ 140737488355328) (hl : l.length ≤ 1048576) {x : α} {v : List Value} (hv : v = f x) {w1 : World} {T' : TypeId} (hN : Newed w w1 (.cells v.toArray T' (0, 0))) (ty : TypeId) :
    ∃ p' c' w2, (Builtin.append_ #[t, t] ty #[.slice p l.length c, .slice (some ⟨w.heap.size, 0, none⟩) 1 1]).run P w1 = .ok (.slice p' (l ++ [x]).length c') w2 ∧ LocR f sz W w2 T p' c' (l ++ [x]) := by
  subst hv
  obtain ⟨p', c', w2, hr, hS, hU, hF⟩ := appendR he (h1 x) (hf x) h.S hb hl hN ty
  refine ⟨p', c', w2, by rw [hr]; simp, h.U.trans hU (fun i hi hf => absurd (h.F i hf) (by omega)), by simpa using hS, fun i hi => ?_⟩
  rcases hF i hi with k | k
  · exact h.F i k
  · exact Nat.le_trans h.U.size k
end

theorem LocR.moreQ {α : Type} {f : α → List Value} {sz : Nat} {W w : World} {T : TypeId} {p : Option Addr} {c : Nat} {l : List α} {P : Program} {t : TypeId} {bytes : Nat} {z : List Value} (h : LocR f sz W w T p c l) (he : ElemT P t T sz bytes z) (hf : ∀ x, (f x).length = sz) (h1 : ∀ x, ∀ u ∈ f x, u.oneCell' = true)
    {q : Option Addr} {m : List α} {d : Nat} (hq : Cells w q (m.flatMap f)) (hb : (l.length + m.length) * bytes ≤ 140737488355328) (hl : l.length + m.length ≤ 1048576) (ty : TypeId) :
    ∃ p' c' w2, (Builtin.append_ #[t, t] ty #[.slice p l.length c, .slice q m.length d]).run P w = .ok (.slice p' (l ++ m).length c') w2 ∧ LocR f sz W w2 T p' c' (l ++ m) := by
  obtain ⟨p', n', c', w2, hr, hn, hS, hU, hF⟩ := run_appendQ he h.S hq (m := m.length) (d := d) (flat_len hf m) (fun u hu => by obtain ⟨x, _, hx⟩ := List.mem_flatMap.1 hu; exact h1 x u hx) hb (by omega) ty
  subst hn
  refine ⟨p', c', w2, by rw [List.length_append]; exact hr, h.U.trans hU (fun i hi hf => absurd (h.F i hf) (by omega)), by rw [List.length_append, List.flatMap_append]; exact hS, fun i hi => ?_⟩
  rcases hF i hi with k | k
  · exact h.F i k
  · exact Nat.le_trans h.U.size k
theorem LocR.more {α : Type} {f : α → List Value} {sz : Nat} {W w : World} {T : TypeId} {p : Option Addr} {c : Nat} {l : List α} {P : Program} {t : TypeId} {bytes : Nat} {z : List Value} (h : LocR f sz W w T p c l) (he : ElemT P t T sz bytes z) (hf : ∀ x, (f x).length = sz) (h1 : ∀ x, ∀ u ∈ f x, u.oneCell' = true)
    {q : Option Addr} {m : List α} {d : Nat} (hq : Cells w q (m.flatMap f)) (hqn : q = none → d = 0) (hb : (l.length + m.length) * bytes ≤ 140737488355328) (hl : l.length + m.length ≤ 1048576) (ty : TypeId) :
    ∃ p' c' w2, (Builtin.append_ #[t, t] ty #[.slice p l.length c, .slice q m.length d]).run P w = .ok (.slice p' (l ++ m).length c') w2 ∧ LocR f sz W w2 T p' c' (l ++ m) := LocR.moreQ h he hf h1 hq hb hl ty
theorem Sl.part {α : Type} {f : α → List Value} {sz : Nat} (hf : ∀ x, (f x).length = sz) {w : World} {T : TypeId} {p : Option Addr} {c : Nat} {l : List α} (hS : Sl w T sz p l.length c (l.flatMap f)) {k : Nat} (hk : k ≤ l.length) :
    Cells w (subA p c 0 sz) ((l.take k).flatMap f) ∧ Cells w (subA p c k sz) ((l.drop k).flatMap f) ∧ (subA p c k sz = none → c - k = 0) ∧ (subA p c 0 sz = none → c = 0) := by
  have e1 : (l.flatMap f).take (k * sz) = (l.take k).flatMap f := by
    conv => lhs; rw [← List.take_append_drop k l, List.flatMap_append]
    rw [List.take_append_of_le_length (by rw [flat_len hf]; simp [Nat.min_eq_left hk]), List.take_of_length_le (by rw [flat_len hf]; simp [Nat.min_eq_left hk])]
  have e2 : (l.flatMap f).drop (k * sz) = (l.drop k).flatMap f := by
    conv => lhs; rw [← List.take_append_drop k l, List.flatMap_append]
    rw [List.drop_append, List.drop_of_length_le (by rw [flat_len hf]; simp [Nat.min_eq_left hk]), flat_len hf]
    simp [Nat.min_eq_left hk]
  have h1 := (hS.takeN k hk).cells
  have hS2 := hS.dropN k hk
  have h2 := hS2.cells
  rw [e1] at h1
  rw [e2] at h2
  refine ⟨by rw [subA_zero]; exact h1, h2, fun e => ?_, fun e => ?_⟩
  · have := hS2.2.2.2
    rw [e] at this
    exact this.2
  · rw [subA_zero] at e
    subst e
    exact hS.2.2.2.2

/-- A list of records, owned. -/
def LsR {α : Type} (f : α → List Value) (sz : Nat) (T : TypeId) : Ob (Option Addr × Nat × List α) := fun w F x => (∀ i, F i ↔ fpS x.1 i) ∧ Sl w T sz x.1 x.2.2.length x.2.1 (x.2.2.flatMap f)
instance Frame.lsr {α : Type} (f : α → List Value) (sz : Nat) (T : TypeId) : Frame (LsR f sz T) where
  upd := fun ⟨h1, h2⟩ k hG => ⟨h1, h2.upd k (fun i hi => hG i ((h1 i).2 hi))⟩
  lt := fun ⟨h1, h2⟩ i hi => h2.lt i ((h1 i).1 hi)
section
variable {α : Type} {f : α → List Value} {sz : Nat} {W w w' : World} {T : TypeId} {p : Option Addr} {c : Nat} {l : List α} {F : Fp}
theorem LsR.nil (w : World) (f : α → List Value) (sz : Nat) (T : TypeId) : LsR f sz T w (fun _ => False) (none, 0, []) := ⟨fun i => ⟨fun h => h.elim, fun ⟨a, ha, _⟩ => by cases ha⟩, Sl.nil _ _ _⟩
theorem LsR.cells (h : LsR f sz T w F (p, c, l)) : Cells w p (l.flatMap f) := h.2.cells
theorem LsR.push {P : Program} {t : TypeId} {bytes : Nat} {z : List Value} (he : ElemT P t T sz bytes z) (hf : ∀ x, (f x).length = sz) (h1 : ∀ x, ∀ u ∈ f x, u.oneCell' = true) (h : LsR f sz T w F (p, c, l)) (hb : (l.length + 1) * bytes ≤ 140737488355328) (hl : l.length ≤ 1048576) {x : α} {v : List Value} (hv : v = f x) {w1 : World} {T' : TypeId} (hN : Newed w w1 (.cells v.toArray T' (0, 0))) (ty : TypeId) :
    ∃ p' c' w2, (Builtin.append_ #[t, t] ty #[.slice p l.length c, .slice (some ⟨w.heap.size, 0, none⟩) 1 1]).run P w1 = .ok (.slice p' (l ++ [x]).length c') w2 ∧ Turn (LsR f sz T) w w2 F (p', c', l ++ [x]) := by
  subst hv
  obtain ⟨p', c', w2, hr, hS, hU, hF⟩ := appendR he (h1 x) (hf x) h.2 hb hl hN ty
  refine ⟨p', c', w2, by rw [hr]; simp, fpS p', ⟨fun _ => Iff.rfl, by simpa using hS⟩, hU.mono (fun i _ hi => (h.1 i).2 hi), fun i hi => (hF i hi).imp (fun k => (h.1 i).2 k) id⟩
theorem LsR.fresh (k : LocR f sz w w' T p c l) {F : Fp} : Turn (LsR f sz T) w w' F (p, c, l) :=
  ⟨fpS p, ⟨fun _ => Iff.rfl, k.S⟩, k.U.mono (fun _ _ h => h.elim), fun i hi => .inr (k.F i hi)⟩
end

/-! ### Equality of structs of plain fields -/

def scEq : Value → Value → Bool
  | .int _ a, .int _ b => a == b
  | .bool a, .bool b => a == b
  | _, _ => false
def sameSc : Value → Value → Bool
  | .int k _, .int k' _ => decide (k = k')
  | .bool _, .bool _ => true
  | _, _ => false
def eqL : List Value → List Value → Bool
  | a :: as, b :: bs => scEq a b && eqL as bs
  | _, _ => true
def sameL : List Value → List Value → Bool
  | a :: as, b :: bs => sameSc a b && sameL as bs
  | [], [] => true
  | _, _ => false
/-- The fields are one cell each, ints and bools, in their order. -/
def flatF (P : Program) : List Field → Nat → List Value → Bool
  | [], _, [] => true
  | f :: fs, i, v :: vs => (f.name != "_") && okT P f.type && !aggT P f.type && (f.offset == i) && (match P.underlying f.type, v with
      | some (.int _), .int _ _ => true
      | some .bool, .bool _ => true
      | _, _ => false) && flatF P fs (i + 1) vs
  | _, _, _ => false
theorem eqFields_flat {P : Program} (d : Nat) {w : World} {xs ys : Array Value} : ∀ {fs : List Field} {i : Nat} {us vs : List Value}, flatF P fs i us = true → sameL us vs = true → xs.toList.drop i = us → ys.toList.drop i = vs →
    (Op.eqFields (d + 1) xs ys fs).run P w = .ok (eqL us vs) w
  | [], i, us, vs, hf, hs, hx, hy => by
    cases us with
    | nil => cases vs with
      | nil => simp [Op.eqFields, eqL]
      | cons _ _ => cases hs
    | cons _ _ => cases hf
  | f :: fs, i, us, vs, hf, hs, hx, hy => by
    cases us with
    | nil => cases hf
    | cons a us =>
      cases vs with
      | nil => cases hs
      | cons b vs =>
        simp only [flatF, Bool.and_eq_true, Bool.not_eq_true'] at hf
        obtain ⟨⟨⟨⟨⟨h1, h2⟩, h3⟩, h4⟩, h5⟩, h6⟩ := hf
        simp only [sameL, Bool.and_eq_true] at hs
        have h4 := eq_of_beq h4
        have ha : xs.toList[f.offset]? = some a := by
          have := congrArg (fun l => l[0]?) hx
          simp only [List.getElem?_drop, List.getElem?_cons_zero] at this
          rw [h4]; simpa using this
        have hb : ys.toList[f.offset]? = some b := by
          have := congrArg (fun l => l[0]?) hy
          simp only [List.getElem?_drop, List.getElem?_cons_zero] at this
          rw [h4]; simpa using this
        have hq : (Op.equalIn (d + 1) f.type a b).run P w = .ok (scEq a b) w := by
          cases hu : P.underlying f.type with
          | none => rw [hu] at h5; cases h5
          | some ty =>
            rw [hu] at h5
            cases a with
            | int k x =>
              cases b with
              | int k' y =>
                have hk : k = k' := of_decide_eq_true hs.1
                subst hk
                cases ty with
                | int q => exact run_equalIn_int w d f.type k q x y hu
                | _ => cases h5
              | _ => cases hs.1
            | bool x =>
              cases b with
              | bool y =>
                cases ty with
                | bool => exact run_equalIn_bool' w d f.type x y hu
                | _ => cases h5
              | _ => cases hs.1
            | _ => cases ty <;> cases h5
        have ih := eqFields_flat d (w := w) (xs := xs) (ys := ys) (fs := fs) (i := i + 1) h6 hs.2 (by rw [← List.drop_drop, hx]; rfl) (by rw [← List.drop_drop, hy]; rfl)
        have hne : f.name ≠ "_" := by simpa using h1
        simp only [Op.eqFields, hne, ne_eq, not_false_eq_true, if_true, Sem.run_bind, run_part_scal h2 h3 ha, run_part_scal h2 h3 hb, hq, Result.andThen_ok, eqL]
        cases hsc : scEq a b
        · simp
        · simp [ih]
def isStr (P : Program) (t : TypeId) : Bool := match P.underlying t with
  | some (.struct _) => true
  | _ => false
theorem run_eq_struct {P : Program} {t : TypeId} (us : List Value) (hp : P.stoodInHeld t = false) (hf : flatF P (P.fieldsOf t).toList 0 us = true) (hs : isStr P t = true) {vs : List Value} (hv : sameL us vs = true) (w : World) :
    (Op.equal t (.agg us.toArray) (.agg vs.toArray)).run P w = .ok (eqL us vs) w := by
  have hu : P.underlying t = some (.struct (P.fieldsOf t)) := by
    unfold Program.fieldsOf
    unfold isStr at hs
    split at hs
    · rename_i fs h; rw [h]
    · cases hs
  show (Op.equalIn (9999 + 1) t _ _).run P w = _
  rw [run_equalIn_struct w 9999 t _ _ hu hp]
  exact eqFields_flat 9998 hf hv (by simp) (by simp)
end Go.Dav
