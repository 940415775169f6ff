/- A slice of pointers to objects. -/
import Derived.Test.YtgakbnonkgohfaaDoorFam
set_option linter.unusedSimpArgs false
set_option linter.unusedVariables false
set_option linter.unusedVariables false
set_option linter.unusedSectionVars false
namespace Go.Dav

/-- An object by its block. -/
def At {σ : Type} (A : Nat → Ob σ) : Ob (Nat × σ) := fun w F x => A x.1 w F x.2
def ptV {σ : Type} (x : Nat × σ) : Value := .pointer (some ⟨x.1, 0, none⟩)
instance Frame.at {σ : Type} {A : Nat → Ob σ} [fa : ∀ b, Frame (A b)] : Frame (At A) where
  upd := fun h k hG => (fa _).upd h k hG
  lt := fun h => (fa _).lt h
abbrev TqH (σ : Type) (b : Nat) (T E : TypeId) (enc : Option Addr → Nat → Nat → List Value) : Ob (List (Nat × σ) × Option Addr × Nat) := Hd b T E 1 (fun qs p c => enc p qs.length c) (fun qs => qs.length) (fun qs => qs.map ptV)
/-- A block with a slice of pointers to objects that are its own. -/
def Tq {σ : Type} (A : Nat → Ob σ) (b : Nat) (T E : TypeId) (enc : Option Addr → Nat → Nat → List Value) : Ob (List σ) := fun w F x => ∃ y qs, Star (TqH σ b T E enc) (Fam (At A)) w F ((qs, y), qs) ∧ qs.map (·.2) = x

section
variable {σ : Type} {A : Nat → Ob σ} [fa : ∀ b, Frame (A b)] {b : Nat} {T E : TypeId} {enc : Option Addr → Nat → Nat → List Value} {w w1 w' : World} {F : Fp} {x : List σ}
instance Frame.tq : Frame (Tq A b T E enc) where
  upd := fun ⟨y, qs, h, r⟩ k hG => ⟨y, qs, Frame.star.upd h k hG, r⟩
  lt := fun ⟨_, _, h, _⟩ => Frame.star.lt h
theorem Tq.blk (h : Tq A b T E enc w F x) : ∃ p c, Blk w b (enc p x.length c) T := by
  obtain ⟨y, qs, h, rfl⟩ := h
  obtain ⟨F1, h1, _⟩ := h.left
  rw [List.length_map]
  exact ⟨_, _, h1.blk⟩
theorem Tq.len (h : Tq A b T E enc w F x) : x.length ≤ maxLen := by
  obtain ⟨y, qs, h, rfl⟩ := h
  obtain ⟨F1, h1, _⟩ := h.left
  rw [List.length_map]
  have := h1.sl
  exact Nat.le_trans this.2.1 this.2.2.1
/-- One of the objects. -/
theorem Tq.at (h : Tq A b T E enc w F x) {i : Nat} (hi : i < x.length) : ∃ a c bi F1, Blk w b (enc (some a) x.length c) T ∧ w.cell? (a.add (i * 1)) = some (.pointer (some ⟨bi, 0, none⟩)) ∧ A bi w F1 x[i] ∧
    ∀ w' s', Turn (A bi) w w' F1 s' → Turn (Tq A b T E enc) w w' F (x.set i s') := by
  obtain ⟨⟨p, c⟩, qs, h, rfl⟩ := h
  have hi' : i < qs.length := by simpa using hi
  obtain ⟨G1, h1, _⟩ := h.left
  obtain ⟨G2, h2, k2⟩ := h.right
  simp only at h1 h2
  obtain ⟨a, ha, hc⟩ := h1.sl.cells.at1 (f := ptV) (l := qs) hi'
  simp only at ha
  subst ha
  obtain ⟨F1, q1, _, q2⟩ := Fam.at h2 hi'
  refine ⟨a, c, qs[i].1, F1, by rw [List.length_map]; exact h1.blk, hc, by rw [List.getElem_map]; exact q1, fun w' s' hT => ?_⟩
  obtain ⟨F1', t1, t2, t3⟩ := hT
  have hk := k2 _ _ (q2 w' (qs[i].1, s') ⟨F1', t1, t2, t3⟩)
  obtain ⟨F', ⟨H1, H2, u1, u2, u3, u4⟩, v2, v3⟩ := hk
  simp only at u1 u2
  have e1 : (qs.set i (qs[i].1, s')).map (ptV (σ := σ)) = qs.map ptV := by
    rw [List.map_set]
    show (qs.map ptV).set i (ptV qs[i]) = qs.map ptV
    apply List.ext_getElem?
    intro j
    rw [List.getElem?_set]
    by_cases hj : i = j
    · subst hj; simp [hi']
    · simp [hj]
  refine ⟨F', ⟨(some a, c), qs.set i (qs[i].1, s'), ⟨H1, H2, ?_, u2, u3, u4⟩, ?_⟩, v2, v3⟩
  · obtain ⟨a1, a2, a3, a4⟩ := u1
    refine ⟨?_, ?_, a3, a4⟩
    · simp only [List.length_set]; exact a1
    · simp only [List.length_set]; rw [e1]; exact a2
  · rw [List.map_set]
/-- .. and all of this behind what has turned other blocks. -/
theorem Tq.atU (h : Tq A b T E enc w F x) {i : Nat} (hi : i < x.length) : ∃ a c bi F1, ∀ w1 G, Upd G w w1 → (∀ j, F j → ¬ G j) → Blk w1 b (enc (some a) x.length c) T ∧ w1.cell? (a.add (i * 1)) = some (.pointer (some ⟨bi, 0, none⟩)) ∧ A bi w1 F1 x[i] ∧
    ∀ w' s', Turn (A bi) w1 w' F1 s' → Turn (Tq A b T E enc) w1 w' F (x.set i s') := by
  obtain ⟨⟨p, c⟩, qs, h, rfl⟩ := h
  have hi' : i < qs.length := by simpa using hi
  obtain ⟨G1, G2, h1, h2, h3, h4⟩ := h
  simp only at h1 h2
  obtain ⟨a, ha, hc⟩ := h1.sl.cells.at1 (f := ptV) (l := qs) hi'
  simp only at ha
  subst ha
  obtain ⟨F1, q0, q2⟩ := Fam.atU h2 hi'
  refine ⟨a, c, qs[i].1, F1, fun w1 G hU hG => ?_⟩
  have hG1 : ∀ j, G1 j → ¬ G j := fun j hj => hG j ((h3 j).2 (.inl hj))
  have hG2 : ∀ j, G2 j → ¬ G j := fun j hj => hG j ((h3 j).2 (.inr hj))
  have h1' := (Frame.hd ..).upd h1 hU hG1
  have h2' := Frame.fam.upd h2 hU hG2
  obtain ⟨p1, p2⟩ := q2 w1 G hU hG2
  obtain ⟨a', ha', hc'⟩ := h1'.sl.cells.at1 (f := ptV) (l := qs) hi'
  cases ha'
  have hS : Star (TqH σ b T E enc) (Fam (At A)) w1 F ((qs, (some a, c)), qs) := ⟨G1, G2, h1', h2', h3, h4⟩
  refine ⟨by rw [List.length_map]; exact h1'.blk, hc', by rw [List.getElem_map]; exact p1, fun w' s' hT => ?_⟩
  obtain ⟨F1', t1, t2, t3⟩ := hT
  obtain ⟨F2', u1, u2, u3⟩ := p2 w' (qs[i].1, s') ⟨F1', t1, t2, t3⟩
  have e1 : (qs.set i (qs[i].1, s')).map (ptV (σ := σ)) = qs.map ptV := by
    rw [List.map_set]
    show (qs.map ptV).set i (ptV qs[i]) = qs.map ptV
    apply List.ext_getElem?
    intro j
    rw [List.getElem?_set]
    by_cases hj : i = j
    · subst hj; simp [hi']
    · simp [hj]
  have h1'' := (Frame.hd ..).upd h1' u2 h4
  have hlt := (Frame.hd ..).lt h1'
  refine ⟨fun j => G1 j ∨ F2' j, ⟨(some a, c), qs.set i (qs[i].1, s'), ⟨G1, F2', ?_, u1, fun _ => Iff.rfl, fun j hj hf => ?_⟩, ?_⟩, u2.mono (fun j _ hj => (h3 j).2 (.inr hj)), fun j hj => ?_⟩
  · obtain ⟨a1, a2, a3, a4⟩ := h1''
    refine ⟨?_, ?_, a3, a4⟩
    · simp only [List.length_set]; exact a1
    · simp only [List.length_set]; rw [e1]; exact a2
  · rcases u3 j hf with h | h
    · exact h4 j hj h
    · have := hlt j hj; omega
  · rw [List.map_set]
  · rcases hj with hj | hj
    · exact .inl ((h3 j).2 (.inl hj))
    · exact (u3 j hj).imp (fun h => (h3 j).2 (.inr h)) id
theorem Tq.nil {c : List Value} (hN : Newed w w' (.cells c.toArray T (0, 0))) (he : enc none 0 0 = c) : Tq A w.heap.size T E enc w' (fun i => i = w.heap.size) [] :=
  ⟨(none, 0), [], ⟨_, fun _ => False, Hd.nil hN (by simpa using he) rfl rfl, Fam.nil _, fun i => by simp, fun _ _ h => h⟩, rfl⟩

/-- One more object. -/
theorem Tq.push {P : Program} {t : TypeId} {z : List Value} (he : ElemT P t E 1 8 z) {k : Nat} (henc : ∀ p n c p' n' c', setL (enc p n c) k [.slice p' n' c'] = enc p' n' c') (hk : ∀ p n c, k + 1 ≤ (enc p n c).length) (h : Tq A b T E enc w F x) (hl : x.length ≤ 100000)
    {bq : Nat} {G : Fp} {s : σ} (hU : Upd no w w1) (hQ : A bq w1 G s) (hG : ∀ i, G i → w.heap.size ≤ i) : ∃ p c, Blk w1 b (enc p x.length c) T ∧
    ∀ w2 {T' : TypeId} (hN : Newed w1 w2 (.cells (List.toArray [.pointer (some ⟨bq, 0, none⟩)]) T' (0, 0))) (ty : TypeId), ∃ p' c' w3, (Builtin.append_ #[t, t] ty #[.slice p x.length c, .slice (some ⟨w1.heap.size, 0, none⟩) 1 1]).run P w2 = .ok (.slice p' (x.length + 1) c') w3 ∧
      ∀ K : World → Prop, (∀ w4, Turn (Tq A b T E enc) w w4 F (x ++ [s]) → K w4) → Wr w3 ((⟨b, 0, none⟩ : Addr).add k) [.slice p' (x.length + 1) c'] K := by
  obtain ⟨⟨p, c⟩, qs, h, rfl⟩ := h
  obtain ⟨G1, G2, h1, h2, h3, h4⟩ := h
  simp only at h1 h2
  rw [List.length_map] at hl
  have h1' : TqH σ b T E enc w1 G1 (qs, (p, c)) := (Frame.hd ..).upd h1 hU (fun _ _ h => h)
  refine ⟨p, c, by rw [List.length_map]; exact h1'.blk, fun w2 T' hN ty => ?_⟩
  obtain ⟨p', c', w3, hr, hS, hU3, hF3⟩ := append1v he (v := .pointer (some ⟨bq, 0, none⟩)) rfl h1'.sl (by simp only; omega) (by simp only; omega) hN ty
  simp only at hS hU3 hF3
  refine ⟨p', c', w3, by rw [List.length_map]; exact hr, fun K hK => ?_⟩
  have hB3 := h1'.blkU hU3
  rw [List.length_map]
  refine hB3.wr (by simpa using hk _ _ _) fun w4 hW => hK w4 ?_
  rw [henc] at hW
  have hTh := h1'.put (s' := qs ++ [(bq, s)]) (p' := p') (c' := c') (by simp only [List.length_append, List.length_singleton, List.map_append]; exact hS) hU3 hF3 (by simp only [List.length_append, List.length_singleton]; exact hW)
  obtain ⟨H1, t1, t2, t3⟩ := hTh
  have hTf := Fam.push h2 hU (show At A w1 G (bq, s) from hQ) hG
  obtain ⟨H2, f1, f2, f3⟩ := hTf
  have hd1 : ∀ j, H2 j → ¬ G1 j := fun j hj hg => by
    rcases f3 j hj with h | h
    · exact h4 j hg h
    · have := (Frame.hd ..).lt h1 j hg; omega
  refine ⟨fun j => H1 j ∨ H2 j, ⟨(p', c'), qs ++ [(bq, s)], ⟨H1, H2, t1, Frame.fam.upd f1 t2 hd1, fun _ => Iff.rfl, fun j hj hg => ?_⟩, by simp⟩, ?_, ?_⟩
  · rcases t3 j hj with h | h
    · exact hd1 j hg h
    · have := Frame.fam.lt f1 j hg; omega
  · exact (hU.none).trans t2 (fun j _ hj => (h3 j).2 (.inl hj))
  · rintro j (hj | hj)
    · rcases t3 j hj with h | h
      · exact .inl ((h3 j).2 (.inl h))
      · exact .inr (Nat.le_trans hU.size h)
    · rcases f3 j hj with h | h
      · exact .inl ((h3 j).2 (.inr h))
      · exact .inr h
end

theorem Turn.next {σ : Type} {A : Ob σ} {w w1 w2 : World} {F F1 : Fp} {s1 s2 : σ} (h : A w1 F1 s1) (hU : Upd F w w1) (hF : ∀ i, F1 i → F i ∨ w.heap.size ≤ i) (k : Turn A w1 w2 F1 s2) : Turn A w w2 F s2 := by
  obtain ⟨F2, k1, k2, k3⟩ := k
  refine ⟨F2, k1, hU.trans k2 (fun i hi hf => (hF i hf).elim id (fun h => absurd h (by omega))), fun i hi => ?_⟩
  rcases k3 i hi with h | h
  · exact hF i h
  · exact .inr (Nat.le_trans hU.size h)
/-- The first ones of a list are read. -/
def RowsOf (w : World) (p : Option Addr) (L : List (List Int)) : Prop := ∀ i (hi : i < L.length), ∃ a q d, p = some a ∧ w.cell? (a.add (i * 1)) = some (.slice q L[i].length d) ∧ Cells w q (L[i].map (Value.int .i64))
theorem Tb.rows {w : World} {F : Fp} {b : Nat} {T E I : TypeId} {enc : Option Addr → Nat → Nat → List Value} {x : List (List Int)} (h : Tb b T E I enc w F x) : x.length ≤ maxLen ∧ ∃ p c, Blk w b (enc p x.length c) T ∧ RowsOf w p x := by
  obtain ⟨⟨p, c⟩, ys, h2, rfl⟩ := h
  obtain ⟨H1, H2, k1, k2, k3, k4⟩ := h2
  simp only at k1 k2
  refine ⟨?_, p, c, by rw [rws_len]; exact k1.blk, fun i hi => ?_⟩
  · have := k1.sl
    rw [rws_len]
    exact Nat.le_trans this.2.1 this.2.2.1
  · have hi' : i < ys.length := by simpa [rws] using hi
    obtain ⟨a, ha, hc⟩ := k1.sl.cells.at1 (f := hdI) (l := ys) hi'
    obtain ⟨F2, q1, _⟩ := Fam.at k2 hi'
    refine ⟨a, ys[i].1, ys[i].2.1, ha, ?_, ?_⟩
    · rw [hc, rws_at _ hi']; rfl
    · rw [rws_at _ hi']; exact q1.cells
end Go.Dav
