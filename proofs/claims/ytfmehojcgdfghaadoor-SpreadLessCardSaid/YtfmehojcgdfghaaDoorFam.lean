/- A family of objects side by side. -/
import Derived.Test.YtfmehojcgdfghaaDoorLv
set_option linter.unusedSimpArgs false
set_option linter.unusedVariables false
set_option linter.unusedVariables false
namespace Go.Dav

def FamL {σ : Type} (A : Ob σ) : List σ → World → Fp → Prop
  | [], _, F => ∀ i, ¬ F i
  | s :: l, w, F => ∃ F1 F2, A w F1 s ∧ FamL A l w F2 ∧ (∀ i, F i ↔ F1 i ∨ F2 i) ∧ ∀ i, F1 i → ¬ F2 i
def Fam {σ : Type} (A : Ob σ) : Ob (List σ) := fun w F l => FamL A l w F

section
variable {σ : Type} {A : Ob σ} {w w' : World} {F : Fp} {l : List σ} {s : σ}
theorem Fam.cons : Fam A w F (s :: l) ↔ Star A (Fam A) w F (s, l) := Iff.rfl

theorem FamL.upd [fa : Frame A] : ∀ {l : List σ} {F G : Fp}, FamL A l w F → Upd G w w' → (∀ i, F i → ¬ G i) → FamL A l w' F
  | [], _, _, h, _, _ => h
  | s :: l, F, G, ⟨F1, F2, h1, h2, h3, h4⟩, k, hG =>
    ⟨F1, F2, fa.upd h1 k (fun i hi => hG i ((h3 i).2 (.inl hi))), FamL.upd h2 k (fun i hi => hG i ((h3 i).2 (.inr hi))), h3, h4⟩
theorem FamL.lt [fa : Frame A] : ∀ {l : List σ} {F : Fp}, FamL A l w F → ∀ i, F i → i < w.heap.size
  | [], _, h, i, hi => absurd hi (h i)
  | s :: l, F, ⟨F1, F2, h1, h2, h3, h4⟩, i, hi => ((h3 i).1 hi).elim (fa.lt h1 i) (FamL.lt h2 i)
instance Frame.fam [Frame A] : Frame (Fam A) where
  upd := FamL.upd
  lt := FamL.lt

theorem Fam.nil (w : World) : Fam A w (fun _ => False) [] := fun _ h => h
theorem Fam.rep {n : Nat} (h : A w (fun _ => False) s) : Fam A w (fun _ => False) (List.replicate n s) := by
  induction n with
  | zero => exact Fam.nil w
  | succ n ih => exact ⟨_, _, h, ih, fun i => by simp, fun _ h => h.elim⟩

theorem Fam.at [fa : Frame A] : ∀ {l : List σ} {F : Fp} (_ : Fam A w F l) {i : Nat} (hi : i < l.length), ∃ F1, A w F1 l[i] ∧ (∀ j, F1 j → F j) ∧ ∀ w' s', Turn A w w' F1 s' → Turn (Fam A) w w' F (l.set i s')
  | s :: l, F, h, 0, _ => by
    obtain ⟨F1, h1, h2⟩ := Star.left (A := A) (B := Fam A) (x := (s, l)) h
    obtain ⟨F1, F2, h1, h2, h3, h4⟩ := h
    refine ⟨F1, h1, fun j hj => (h3 j).2 (.inl hj), fun w' s' k => ?_⟩
    obtain ⟨F', k1, k2, k3⟩ := k
    refine ⟨fun i => F' i ∨ F2 i, ⟨F', F2, k1, FamL.upd h2 k2 (fun i hi hf => h4 i hf hi), fun _ => Iff.rfl, fun i hi hf => ?_⟩, k2.mono (fun i _ hi => (h3 i).2 (.inl hi)), fun i hi => ?_⟩
    · rcases k3 i hi with h | h
      · exact h4 i h hf
      · have := FamL.lt h2 i hf; omega
    · rcases hi with hi | hi
      · exact (k3 i hi).imp (fun h => (h3 i).2 (.inl h)) id
      · exact .inl ((h3 i).2 (.inr hi))
  | s :: l, F, ⟨G1, G2, h1, h2, h3, h4⟩, i + 1, hi => by
    obtain ⟨F1, k1, k0, k2⟩ := Fam.at (l := l) (F := G2) h2 (i := i) (by simpa using hi)
    refine ⟨F1, k1, fun j hj => (h3 j).2 (.inr (k0 j hj)), fun w' s' k => ?_⟩
    obtain ⟨F', q1, q2, q3⟩ := k2 w' s' k
    refine ⟨fun i => G1 i ∨ F' i, ⟨G1, F', fa.upd h1 q2 h4, q1, fun _ => Iff.rfl, fun i hi hf => ?_⟩, q2.mono (fun i _ hi => (h3 i).2 (.inr hi)), fun i hi => ?_⟩
    · rcases q3 i hf with h | h
      · exact h4 i hi h
      · have := fa.lt h1 i hi; omega
    · rcases hi with hi | hi
      · exact .inl ((h3 i).2 (.inl hi))
      · exact (q3 i hi).imp (fun h => (h3 i).2 (.inr h)) id

/-- .. and all of this behind what has turned other blocks. -/
theorem Fam.atU [fa : Frame A] : ∀ {l : List σ} {F : Fp} (_ : Fam A w F l) {i : Nat} (hi : i < l.length), ∃ F1, (∀ j, F1 j → F j) ∧ ∀ w1 G, Upd G w w1 → (∀ j, F j → ¬ G j) → A w1 F1 l[i] ∧ ∀ w' s', Turn A w1 w' F1 s' → Turn (Fam A) w1 w' F (l.set i s')
  | s :: l, F, h, 0, _ => by
    obtain ⟨F1, F2, h1, h2, h3, h4⟩ := h
    refine ⟨F1, fun j hj => (h3 j).2 (.inl hj), fun w1 G hU hG => ?_⟩
    have h1' := fa.upd h1 hU (fun i hi => hG i ((h3 i).2 (.inl hi)))
    have h2' := FamL.upd h2 hU (fun i hi => hG i ((h3 i).2 (.inr hi)))
    refine ⟨h1', fun w' s' k => ?_⟩
    obtain ⟨F', k1, k2, k3⟩ := k
    refine ⟨fun i => F' i ∨ F2 i, ⟨F', F2, k1, FamL.upd h2' k2 (fun i hi hf => h4 i hf hi), fun _ => Iff.rfl, fun i hi hf => ?_⟩, k2.mono (fun i _ hi => (h3 i).2 (.inl hi)), fun i hi => ?_⟩
    · rcases k3 i hi with h | h
      · exact h4 i h hf
      · have := FamL.lt h2' i hf; omega
    · rcases hi with hi | hi
      · exact (k3 i hi).imp (fun h => (h3 i).2 (.inl h)) id
      · exact .inl ((h3 i).2 (.inr hi))
  | s :: l, F, ⟨G1, G2, h1, h2, h3, h4⟩, i + 1, hi => by
    obtain ⟨F1, k0, k1⟩ := Fam.atU (l := l) (F := G2) h2 (i := i) (by simpa using hi)
    refine ⟨F1, fun j hj => (h3 j).2 (.inr (k0 j hj)), fun w1 G hU hG => ?_⟩
    obtain ⟨q0, q1⟩ := k1 w1 G hU (fun j hj => hG j ((h3 j).2 (.inr hj)))
    have h1' := fa.upd h1 hU (fun i hi => hG i ((h3 i).2 (.inl hi)))
    refine ⟨q0, fun w' s' k => ?_⟩
    obtain ⟨F', q1, q2, q3⟩ := q1 w' s' k
    refine ⟨fun i => G1 i ∨ F' i, ⟨G1, F', fa.upd h1' q2 h4, q1, fun _ => Iff.rfl, fun i hi hf => ?_⟩, q2.mono (fun i _ hi => (h3 i).2 (.inr hi)), fun i hi => ?_⟩
    · rcases q3 i hf with h | h
      · exact h4 i hi h
      · have := fa.lt h1' i hi; omega
    · rcases hi with hi | hi
      · exact .inl ((h3 i).2 (.inl hi))
      · exact (q3 i hi).imp (fun h => (h3 i).2 (.inr h)) id

theorem Fam.push [fa : Frame A] : ∀ {l : List σ} {F : Fp} (_ : Fam A w F l) (_ : Upd no w w') {G : Fp} (_ : A w' G s) (_ : ∀ i, G i → w.heap.size ≤ i), Turn (Fam A) w w' F (l ++ [s])
  | [], F, h, k, G, hA, hG => ⟨G, ⟨G, fun _ => False, hA, fun _ h => h, fun i => by simp, fun _ _ h => h⟩, k.mono (fun _ _ h => h.elim), fun i hi => .inr (hG i hi)⟩
  | t :: l, F, ⟨G1, G2, h1, h2, h3, h4⟩, k, G, hA, hG => by
    obtain ⟨F', q1, q2, q3⟩ := Fam.push (l := l) (F := G2) h2 k hA hG
    refine ⟨fun i => G1 i ∨ F' i, ⟨G1, F', fa.upd h1 k (fun _ _ h => h), q1, fun _ => Iff.rfl, fun i hi hf => ?_⟩, k.mono (fun _ _ h => h.elim), fun i hi => ?_⟩
    · rcases q3 i hf with h | h
      · exact h4 i hi h
      · have := fa.lt h1 i hi; omega
    · rcases hi with hi | hi
      · exact .inl ((h3 i).2 (.inl hi))
      · exact (q3 i hi).imp (fun h => (h3 i).2 (.inr h)) id

end

/-! ### A list of numbers: other parts of it -/
section
variable {T : TypeId} {w w' : World} {F : Fp} {p : Option Addr} {c : Nat} {l : List Int}
theorem Ls.cells (h : Ls T w F (p, c, l)) : Cells w p (l.map (Value.int .i64)) := h.2.cells
theorem Ls.zero (h : Ls T w F (p, c, l)) (hp : p = none) : l = [] ∧ c = 0 := by
  obtain ⟨_, _, _, h4⟩ := h.2
  subst hp
  exact ⟨List.eq_nil_of_length_eq_zero h4.1, h4.2⟩
theorem Ls.room (h : Ls T w F (p, c, l)) : l.length ≤ c := h.2.2.1
theorem Ls.max (h : Ls T w F (p, c, l)) : c ≤ maxLen := h.2.2.2.1
/-- The last ones. -/
theorem Ls.behind (h : Ls T w F (p, c, l)) {k : Nat} (hk : k ≤ l.length) : Turn (Ls T) w w F (subA p c k 1, c - k, l.drop k) := by
  refine ⟨fpS (subA p c k 1), ⟨fun _ => Iff.rfl, ?_⟩, Upd.refl _ _, fun i hi => .inl ((h.1 i).2 (fpS_sub i hi))⟩
  have := h.2.dropN k hk
  rw [Nat.mul_one, ← List.map_drop] at this
  simp only [List.length_drop]
  exact this
/-- The first ones, without more room. -/
theorem Ls.first (h : Ls T w F (p, c, l)) {k : Nat} (hk : k ≤ l.length) : Turn (Ls T) w w F (subA p k 0 1, k, l.take k) := by
  obtain ⟨hF, h1, h2, h3, h4⟩ := h
  simp only at hF h1 h2 h3 h4
  have hkc : k ≤ c := Nat.le_trans hk h2
  refine ⟨fpS (subA p k 0 1), ⟨fun _ => Iff.rfl, ?_⟩, Upd.refl _ _, fun i hi => .inl ((hF i).2 (fpS_sub i hi))⟩
  simp only [subA_zero, List.length_take, Nat.min_eq_left hk]
  refine ⟨by simp; omega, Nat.le_refl _, by omega, ?_⟩
  cases p with
  | none => obtain ⟨q1, q2⟩ := h4; exact ⟨by omega, by omega⟩
  | some a =>
    obtain ⟨cells, hb, hs, hl, ht⟩ := h4
    refine ⟨cells, hb, hs, by omega, ?_⟩
    rw [List.map_take, ← ht, List.take_take]
    congr 1
    omega
/-- None any more. -/
theorem Ls.empty (h : Ls T w F (p, c, l)) : Turn (Ls T) w w F (none, 0, []) := ⟨fun _ => False, ⟨fun i => ⟨fun h => h.elim, fun ⟨a, ha, _⟩ => by cases ha⟩, Sl.nil _ _ _⟩, Upd.refl _ _, fun _ h => h.elim⟩
/-- .. with others behind them. -/
theorem Ls.more {P : Program} {t : TypeId} {z : List Value} (he : ElemT P t T 1 8 z) (h : Ls T w F (p, c, l)) {q : Option Addr} {m : List Int} {d : Nat} (hq : Cells w q (m.map (Value.int .i64))) (hqn : q = none → d = 0) (hb : l.length + m.length ≤ 1048576) (ty : TypeId) :
    ∃ p' c' w2, (Builtin.append_ #[t, t] ty #[.slice p l.length c, .slice q m.length d]).run P w = .ok (.slice p' (l ++ m).length c') w2 ∧ Turn (Ls T) w w2 F (p', c', l ++ m) := by
  obtain ⟨p', n', c', w2, hr, hn, hS, hU, hF⟩ := run_append he h.2 hq (m := m.length) (d := d) (by simp) (by simp [Value.oneCell']) hqn (by simp only; omega) (by simp only; omega) ty
  simp only at hn hS hU hF
  subst hn
  refine ⟨p', c', w2, by rw [List.length_append]; exact hr, fpS p', ⟨fun _ => Iff.rfl, ?_⟩, hU.mono (fun i _ hi => (h.1 i).2 hi), fun i hi => (hF i hi).imp (fun k => (h.1 i).2 k) id⟩
  simp only [List.length_append, List.map_append]
  exact hS
/-- Another one, of the call's own. -/
theorem Ls.fresh {p' : Option Addr} {c' : Nat} {l' : List Int} (k : Loc w w' T p' c' l') : Turn (Ls T) w w' F (p', c', l') :=
  ⟨fpS p', ⟨fun _ => Iff.rfl, k.S⟩, k.U.mono (fun _ _ h => h.elim), fun i hi => .inr (k.F i hi)⟩
end

/-! ### A slice of lists -/
section
variable {w w1 w' : World} {F : Fp}
abbrev Lst := Option Addr × Nat × List Int
def hdI (y : Lst) : Value := .slice y.1 y.2.2.length y.2.1
def rws (ys : List Lst) : List (List Int) := ys.map (·.2.2)
theorem rws_len (ys : List Lst) : (rws ys).length = ys.length := by simp [rws]
theorem rws_at (ys : List Lst) {i : Nat} (hi : i < ys.length) : (rws ys)[i]'(by rw [rws_len]; exact hi) = ys[i].2.2 := by simp [rws]
theorem rws_set (ys : List Lst) (i : Nat) (p : Option Addr) (c : Nat) (l : List Int) : rws (ys.set i (p, c, l)) = (rws ys).set i l := by simp [rws, List.map_set]

/-- A block with a slice of lists. -/
def Tb (b : Nat) (T E I : TypeId) (enc : Option Addr → Nat → Nat → List Value) : Ob (List (List Int)) := fun w F x => ∃ y ys,
  Star (Hd b T E 1 (fun (ys : List Lst) p c => enc p ys.length c) (fun ys => ys.length) (fun ys => ys.map hdI)) (Fam (Ls I)) w F ((ys, y), ys) ∧ rws ys = x
variable {b : Nat} {T E I : TypeId} {enc : Option Addr → Nat → Nat → List Value} {x : List (List Int)}
instance Frame.tb : Frame (Tb b T E I enc) where
  upd := fun ⟨y, ys, h, r⟩ k hG => ⟨y, ys, Frame.star.upd h k hG, r⟩
  lt := fun ⟨_, _, h, _⟩ => Frame.star.lt h

/-- The block. -/
theorem Tb.blk (h : Tb b T E I enc w F x) : ∃ p c, Blk w b (enc p x.length c) T := by
  obtain ⟨y, ys, h, rfl⟩ := h
  obtain ⟨F1, h1, _⟩ := h.left
  rw [rws_len]
  exact ⟨_, _, h1.blk⟩

/-- One of the lists: where it is, what it holds, and how another one is put into its place. -/
structure TbAt (b : Nat) (T E I : TypeId) (enc : Option Addr → Nat → Nat → List Value) (w : World) (F : Fp) (x : List (List Int)) (i : Nat) (l : List Int) (a : Addr) (c0 : Nat) (p : Option Addr) (c : Nat) (F1 : Fp) : Prop where
  ls : Ls I w F1 (p, c, l)
  sub : ∀ i, F1 i → F i
  blk : ∀ w', Upd F1 w w' → Blk w' b (enc (some a) x.length c0) T
  cell : ∀ w', Upd F1 w w' → w'.cell? (a.add (i * 1)) = some (.slice p l.length c)
  put : ∀ w1 p' c' l', Turn (Ls I) w w1 F1 (p', c', l') → ∀ K : World → Prop, (∀ w', Turn (Tb b T E I enc) w w' F (x.set i l') → K w') → Wr w1 (a.add (i * 1)) [.slice p' l'.length c'] K

/-- .. what stays where other blocks turn. -/
def TbR (b : Nat) (T E I : TypeId) (enc : Option Addr → Nat → Nat → List Value) (w : World) (F : Fp) (x : List (List Int)) (i : Nat) (a : Addr) (c0 : Nat) (p : Option Addr) (c : Nat) : Prop := ∃ ys,
  Star (Hd b T E 1 (fun (ys : List Lst) p c => enc p ys.length c) (fun ys => ys.length) (fun ys => ys.map hdI)) (Fam (Ls I)) w F ((ys, (some a, c0)), ys) ∧ rws ys = x ∧ ∃ hi : i < ys.length, ys[i].1 = p ∧ ys[i].2.1 = c
theorem TbR.upd {i : Nat} {a : Addr} {c0 : Nat} {p : Option Addr} {c : Nat} {G : Fp} (h : TbR b T E I enc w F x i a c0 p c) (k : Upd G w w') (hG : ∀ i, F i → ¬ G i) : TbR b T E I enc w' F x i a c0 p c := by
  obtain ⟨ys, h, r⟩ := h
  exact ⟨ys, Frame.star.upd h k hG, r⟩

theorem Upd.none {F : Fp} (h : Upd no w w') : Upd F w w' := h.mono (fun _ _ h => h.elim)
theorem TbAt.blk0 {i : Nat} {l : List Int} {a : Addr} {c0 : Nat} {p : Option Addr} {c : Nat} {F1 : Fp} (h : TbAt b T E I enc w F x i l a c0 p c F1) : Blk w b (enc (some a) x.length c0) T := h.blk _ (Upd.refl _ _)
theorem TbAt.cell0 {i : Nat} {l : List Int} {a : Addr} {c0 : Nat} {p : Option Addr} {c : Nat} {F1 : Fp} (h : TbAt b T E I enc w F x i l a c0 p c F1) : w.cell? (a.add (i * 1)) = some (.slice p l.length c) := h.cell _ (Upd.refl _ _)
theorem TbAt.cells {i : Nat} {l : List Int} {a : Addr} {c0 : Nat} {p : Option Addr} {c : Nat} {F1 : Fp} (h : TbAt b T E I enc w F x i l a c0 p c F1) : Cells w p (l.map (Value.int .i64)) := h.ls.cells

theorem Tb.raw (h : Tb b T E I enc w F x) {i : Nat} (hi : i < x.length) : ∃ a c0 p c, TbR b T E I enc w F x i a c0 p c := by
  obtain ⟨⟨y1, y2⟩, ys, h, rfl⟩ := h
  have hi' : i < ys.length := by simpa [rws] using hi
  obtain ⟨F1, h1, _⟩ := h.left
  obtain ⟨a, ha, hc⟩ := h1.sl.cells.at1 (f := hdI) (l := ys) hi'
  simp only at ha
  subst ha
  exact ⟨a, y2, _, _, ys, h, rfl, hi', rfl, rfl⟩

theorem TbR.open {i : Nat} {a : Addr} {c0 : Nat} {p : Option Addr} {c : Nat} (h : TbR b T E I enc w F x i a c0 p c) (hi : i < x.length) : ∃ F1, TbAt b T E I enc w F x i x[i] a c0 p c F1 := by
  obtain ⟨ys, h, rfl, hi', rfl, rfl⟩ := h
  obtain ⟨G1, G2, h1, h2, h3, h4⟩ := h
  simp only at h1 h2
  obtain ⟨F1, k1, k0, k2⟩ := Fam.at h2 hi'
  have hU : ∀ w', Upd F1 w w' → Hd b T E 1 (fun (ys : List Lst) p c => enc p ys.length c) (fun ys => ys.length) (fun ys => ys.map hdI) w' G1 (ys, (some a, c0)) := fun w' k => (Frame.hd ..).upd h1 k (fun j hj hf => h4 j hj (k0 j hf))
  refine ⟨F1, ?_, fun j hj => (h3 j).2 (.inr (k0 j hj)), fun w' k => ?_, fun w' k => ?_, fun w1 p' c' l' k K hK => ?_⟩
  · rw [rws_at _ hi']
    exact k1
  · rw [rws_len]
    exact (hU w' k).blk
  · obtain ⟨a', ha', hc'⟩ := (hU w' k).sl.cells.at1 (f := hdI) (l := ys) hi'
    cases ha'
    rw [hc', rws_at _ hi']
    rfl
  · obtain ⟨F', q1, q2, q3⟩ := k2 _ _ k
    have h1' := (Frame.hd ..).upd h1 q2 h4
    refine h1'.sl.wr (o := i * 1) (by simp; omega) fun w' hS hV => hK w' ?_
    rw [Nat.mul_one] at hS
    have e1 : setL (ys.map hdI) i [.slice p' l'.length c'] = (ys.set i (p', c', l')).map hdI := by
      have := setL_set (f := hdI) (r := ys) hi' (v := (p', c', l'))
      exact this
    rw [e1] at hS
    have hT := h1'.elems (w' := w') (s' := ys.set i (p', c', l')) (by simp only [List.length_set]; exact hS) hV (by simp only [List.length_set])
    obtain ⟨H', t1, t2, t3⟩ := hT
    have hlt := (Frame.hd ..).lt h1
    refine ⟨fun j => H' j ∨ F' j, ⟨(some a, c0), ys.set i (p', c', l'), ⟨H', F', t1, Frame.fam.upd q1 t2 ?_, fun _ => Iff.rfl, ?_⟩, rws_set ..⟩, ?_, ?_⟩
    · intro j hj hf
      rcases q3 j hj with h | h
      · exact h4 j hf h
      · have := hlt j hf; omega
    · intro j hj hf
      rcases t3 j hj with h | h
      · rcases q3 j hf with h' | h'
        · exact h4 j h h'
        · have := hlt j h; omega
      · have := Frame.fam.lt q1 j hf; omega
    · exact (q2.mono (fun j _ hj => (h3 j).2 (.inr hj))).trans t2 (fun j _ hj => (h3 j).2 (.inl hj))
    · rintro j (hj | hj)
      · rcases t3 j hj with h | h
        · exact .inl ((h3 j).2 (.inl h))
        · exact .inr (Nat.le_trans q2.size h)
      · rcases q3 j hj with h | h
        · exact .inl ((h3 j).2 (.inr h))
        · exact .inr h
theorem Tb.at (h : Tb b T E I enc w F x) {i : Nat} (hi : i < x.length) : ∃ a c0 p c F1, TbAt b T E I enc w F x i x[i] a c0 p c F1 := by
  obtain ⟨a, c0, p, c, k⟩ := h.raw hi
  obtain ⟨F1, k⟩ := k.open hi
  exact ⟨a, c0, p, c, F1, k⟩

/-- A new one: no lists yet are empty ones. -/
theorem Tb.new {n : Nat} {p : Option Addr} {c : Nat} {cs : List Value} (hU : Upd no w w1) (hS : Sl w1 E 1 p n c (List.replicate n (Value.slice none 0 0))) (hp : ∀ i, fpS p i → w.heap.size ≤ i) (hN : Newed w1 w' (.cells cs.toArray T (0, 0))) (he : enc p n c = cs) :
    Tb w1.heap.size T E I enc w' (fun i => i = w1.heap.size ∨ fpS p i) (List.replicate n []) := by
  have e0 : (List.replicate n ((none, 0, []) : Lst)).map hdI = List.replicate n (Value.slice none 0 0) := by simp [hdI]
  refine ⟨(p, c), List.replicate n (none, 0, []), ⟨fun i => i = w1.heap.size ∨ fpS p i, fun _ => False, ⟨?_, ?_, ?_, fun _ => Iff.rfl⟩, Fam.rep ⟨fun i => ⟨fun h => h.elim, fun ⟨a, ha, _⟩ => by cases ha⟩, Sl.nil _ _ _⟩, fun i => by simp, fun _ _ h => h⟩, by simp [rws]⟩
  · simp only [List.length_replicate]
    rw [he]
    exact hN.blk'
  · simp only [List.length_replicate]
    rw [e0]
    exact hS.upd (hN.upd no) (fun _ _ h => h)
  · intro h
    exact absurd (hS.lt _ h) (Nat.lt_irrefl _)
end
end Go.Dav
