/- Words on objects: a predicate on a world, on the blocks that it holds and on what it stands for; objects side by side. -/
import Derived.Test.YtfmehojcgdfghaaDoorOwn
set_option linter.unusedSimpArgs false
set_option linter.unusedVariables false
namespace Go.Dav

abbrev Fp := Nat → Prop
abbrev Ob (σ : Type) := World → Fp → σ → Prop

/-- What an object is stays as it is where other blocks turn; its blocks are there. -/
class Frame {σ : Type} (A : Ob σ) : Prop where
  upd : ∀ {w w' : World} {F G : Fp} {s : σ}, A w F s → Upd G w w' → (∀ i, F i → ¬ G i) → A w' F s
  lt : ∀ {w : World} {F : Fp} {s : σ}, A w F s → ∀ i, F i → i < w.heap.size

/-- A call has turned an object (with the blocks F) alone. -/
def Turn {σ : Type} (A : Ob σ) (w w' : World) (F : Fp) (s' : σ) : Prop := ∃ F', A w' F' s' ∧ Upd F w w' ∧ ∀ i, F' i → F i ∨ w.heap.size ≤ i

/-- An object of the call's own. -/
def Mine {σ : Type} (W w : World) (A : Ob σ) (s : σ) : Prop := ∃ F, A w F s ∧ Upd no W w ∧ ∀ i, F i → W.heap.size ≤ i

def Star {σ τ : Type} (A : Ob σ) (B : Ob τ) : Ob (σ × τ) := fun w F x => ∃ F1 F2, A w F1 x.1 ∧ B w F2 x.2 ∧ (∀ i, F i ↔ F1 i ∨ F2 i) ∧ ∀ i, F1 i → ¬ F2 i

instance Frame.star {σ τ : Type} {A : Ob σ} {B : Ob τ} [fa : Frame A] [fb : Frame B] : Frame (Star A B) where
  upd := by
    rintro w w' F G s ⟨F1, F2, h1, h2, h3, h4⟩ k hG
    exact ⟨F1, F2, fa.upd h1 k (fun i hi => hG i ((h3 i).2 (.inl hi))), fb.upd h2 k (fun i hi => hG i ((h3 i).2 (.inr hi))), h3, h4⟩
  lt := by
    rintro w F s ⟨F1, F2, h1, h2, h3, h4⟩ i hi
    rcases (h3 i).1 hi with hi | hi
    · exact fa.lt h1 i hi
    · exact fb.lt h2 i hi

section
variable {σ τ : Type} {A : Ob σ} {B : Ob τ} {W w w' : World} {F : Fp} {s s' : σ} {t : τ}

theorem Turn.same (h : A w F s) : Turn A w w F s := ⟨F, h, Upd.refl _ _, fun _ hi => .inl hi⟩

theorem Turn.trans {w1 : World} {s1 : σ} (h : Turn A w w1 F s1) (k : ∀ F1, A w1 F1 s1 → Turn A w1 w' F1 s') : Turn A w w' F s' := by
  obtain ⟨F1, h1, h2, h3⟩ := h
  obtain ⟨F2, k1, k2, k3⟩ := k F1 h1
  refine ⟨F2, k1, h2.trans k2 (fun i hi hf => (h3 i hf).elim id (fun h => absurd h (by omega))), fun i hi => ?_⟩
  rcases k3 i hi with h | h
  · exact h3 i h
  · exact .inr (Nat.le_trans h2.size h)

/-- Nothing that was there has turned: the object neither. -/
theorem Turn.quiet [fa : Frame A] (h : A w F s) (k : Upd no w w') : Turn A w w' F s := ⟨F, fa.upd h k (fun _ _ h => h), k.mono (fun _ _ h => h.elim), fun _ hi => .inl hi⟩

theorem Star.left [fb : Frame B] {x : σ × τ} (h : Star A B w F x) : ∃ F1, A w F1 x.1 ∧ ∀ w' s', Turn A w w' F1 s' → Turn (Star A B) w w' F (s', x.2) := by
  obtain ⟨F1, F2, h1, h2, h3, h4⟩ := h
  refine ⟨F1, h1, ?_⟩
  rintro w' s' ⟨F', k1, k2, k3⟩
  refine ⟨fun i => F' i ∨ F2 i, ⟨F', F2, k1, fb.upd h2 k2 (fun i hi hf => h4 i hf hi), fun _ => Iff.rfl, fun i hi hf => ?_⟩, k2.mono (fun i _ hi => (h3 i).2 (.inl hi)), fun i hi => ?_⟩
  · rcases k3 i hi with h | h
    · exact h4 i h hf
    · have := fb.lt h2 i hf; omega
  · rcases hi with hi | hi
    · exact (k3 i hi).imp (fun h => (h3 i).2 (.inl h)) id
    · exact .inl ((h3 i).2 (.inr hi))

theorem Star.swap {x : σ × τ} (h : Star A B w F x) : Star B A w F (x.2, x.1) := by
  obtain ⟨F1, F2, h1, h2, h3, h4⟩ := h
  exact ⟨F2, F1, h2, h1, fun i => (h3 i).trans Or.comm, fun i hi hf => h4 i hf hi⟩

theorem Turn.swap {x : σ × τ} (h : Turn (Star A B) w w' F x) : Turn (Star B A) w w' F (x.2, x.1) := by
  obtain ⟨F', h1, h2⟩ := h
  exact ⟨F', h1.swap, h2⟩

theorem Star.right [fa : Frame A] {x : σ × τ} (h : Star A B w F x) : ∃ F2, B w F2 x.2 ∧ ∀ w' t', Turn B w w' F2 t' → Turn (Star A B) w w' F (x.1, t') := by
  obtain ⟨F2, h1, h2⟩ := h.swap.left
  exact ⟨F2, h1, fun w' t' k => (h2 w' t' k).swap⟩

theorem Mine.turn (h : Mine W w A s) : ∃ F, A w F s ∧ ∀ w' s', Turn A w w' F s' → Mine W w' A s' := by
  obtain ⟨F, h1, h2, h3⟩ := h
  refine ⟨F, h1, ?_⟩
  rintro w' s' ⟨F', k1, k2, k3⟩
  refine ⟨F', k1, h2.trans k2 (fun i hi hf => absurd (h3 i hf) (by omega)), fun i hi => ?_⟩
  rcases k3 i hi with h | h
  · exact h3 i h
  · exact Nat.le_trans h2.size h
theorem Mine.upd [fa : Frame A] (h : Mine W w A s) (k : Upd no w w') : Mine W w' A s := by
  obtain ⟨F, h1, h2⟩ := h.turn
  exact h2 _ _ (Turn.quiet h1 k)
theorem Mine.U (h : Mine W w A s) : Upd no W w := by
  obtain ⟨_, _, k, _⟩ := h
  exact k
theorem Mine.left [fb : Frame B] {x : σ × τ} (h : Mine W w (Star A B) x) : ∃ F1, A w F1 x.1 ∧ ∀ w' s', Turn A w w' F1 s' → Mine W w' (Star A B) (s', x.2) := by
  obtain ⟨F, h1, h2⟩ := h.turn
  obtain ⟨F1, k1, k2⟩ := h1.left
  exact ⟨F1, k1, fun w' s' k => h2 _ _ (k2 w' s' k)⟩
theorem Mine.right [fa : Frame A] {x : σ × τ} (h : Mine W w (Star A B) x) : ∃ F2, B w F2 x.2 ∧ ∀ w' t', Turn B w w' F2 t' → Mine W w' (Star A B) (x.1, t') := by
  obtain ⟨F, h1, h2⟩ := h.turn
  obtain ⟨F1, k1, k2⟩ := h1.right
  exact ⟨F1, k1, fun w' s' k => h2 _ _ (k2 w' s' k)⟩

theorem Mine.ll {υ : Type} {C : Ob υ} [Frame B] [Frame C] {x : (σ × τ) × υ} (h : Mine W w (Star (Star A B) C) x) [Frame A] : ∃ F1, A w F1 x.1.1 ∧ ∀ w' s', Turn A w w' F1 s' → Mine W w' (Star (Star A B) C) ((s', x.1.2), x.2) := by
  obtain ⟨F, h1, h2⟩ := h.left
  obtain ⟨F1, k1, k2⟩ := h1.left
  exact ⟨F1, k1, fun w' s' k => h2 _ _ (k2 w' s' k)⟩
theorem Mine.lr {υ : Type} {C : Ob υ} [Frame A] [Frame B] [Frame C] {x : (σ × τ) × υ} (h : Mine W w (Star (Star A B) C) x) : ∃ F1, B w F1 x.1.2 ∧ ∀ w' t', Turn B w w' F1 t' → Mine W w' (Star (Star A B) C) ((x.1.1, t'), x.2) := by
  obtain ⟨F, h1, h2⟩ := h.left
  obtain ⟨F1, k1, k2⟩ := h1.right
  exact ⟨F1, k1, fun w' s' k => h2 _ _ (k2 w' s' k)⟩
/-- What is of use no more. -/
theorem Mine.drop {x : σ × τ} (h : Mine W w (Star A B) x) : Mine W w A x.1 := by
  obtain ⟨F, ⟨F1, F2, h1, h2, h3, h4⟩, k1, k2⟩ := h
  exact ⟨F1, h1, k1, fun i hi => k2 i ((h3 i).2 (.inl hi))⟩

/-! The same words for what a call holds that was handed to it. -/
section
variable {F0 : Fp}
theorem Turn.turn (h : Turn A W w F0 s) : ∃ F, A w F s ∧ ∀ w' s', Turn A w w' F s' → Turn A W w' F0 s' := by
  obtain ⟨F, h1, h2, h3⟩ := h
  refine ⟨F, h1, ?_⟩
  rintro w' s' ⟨F', k1, k2, k3⟩
  refine ⟨F', k1, h2.trans k2 (fun i hi hf => (h3 i hf).elim id (fun h => absurd h (by omega))), fun i hi => ?_⟩
  rcases k3 i hi with h | h
  · exact h3 i h
  · exact .inr (Nat.le_trans h2.size h)
theorem Turn.upd [fa : Frame A] (h : Turn A W w F0 s) (k : Upd no w w') : Turn A W w' F0 s := by
  obtain ⟨F, h1, h2⟩ := h.turn
  exact h2 _ _ (Turn.quiet h1 k)
theorem Turn.left [fb : Frame B] {x : σ × τ} (h : Turn (Star A B) W w F0 x) : ∃ F1, A w F1 x.1 ∧ ∀ w' s', Turn A w w' F1 s' → Turn (Star A B) W w' F0 (s', x.2) := by
  obtain ⟨F, h1, h2⟩ := h.turn
  obtain ⟨F1, k1, k2⟩ := h1.left
  exact ⟨F1, k1, fun w' s' k => h2 _ _ (k2 w' s' k)⟩
theorem Turn.right [fa : Frame A] {x : σ × τ} (h : Turn (Star A B) W w F0 x) : ∃ F2, B w F2 x.2 ∧ ∀ w' t', Turn B w w' F2 t' → Turn (Star A B) W w' F0 (x.1, t') := by
  obtain ⟨F, h1, h2⟩ := h.turn
  obtain ⟨F1, k1, k2⟩ := h1.right
  exact ⟨F1, k1, fun w' s' k => h2 _ _ (k2 w' s' k)⟩
theorem Turn.ll {υ : Type} {C : Ob υ} [Frame B] [Frame C] {x : (σ × τ) × υ} (h : Turn (Star (Star A B) C) W w F0 x) [Frame A] : ∃ F1, A w F1 x.1.1 ∧ ∀ w' s', Turn A w w' F1 s' → Turn (Star (Star A B) C) W w' F0 ((s', x.1.2), x.2) := by
  obtain ⟨F, h1, h2⟩ := h.left
  obtain ⟨F1, k1, k2⟩ := h1.left
  exact ⟨F1, k1, fun w' s' k => h2 _ _ (k2 w' s' k)⟩
theorem Turn.lr {υ : Type} {C : Ob υ} [Frame A] [Frame B] [Frame C] {x : (σ × τ) × υ} (h : Turn (Star (Star A B) C) W w F0 x) : ∃ F1, B w F1 x.1.2 ∧ ∀ w' t', Turn B w w' F1 t' → Turn (Star (Star A B) C) W w' F0 ((x.1.1, t'), x.2) := by
  obtain ⟨F, h1, h2⟩ := h.left
  obtain ⟨F1, k1, k2⟩ := h1.right
  exact ⟨F1, k1, fun w' s' k => h2 _ _ (k2 w' s' k)⟩
theorem Turn.drop {x : σ × τ} (h : Turn (Star A B) W w F0 x) : Turn A W w F0 x.1 := by
  obtain ⟨F, ⟨F1, F2, h1, h2, h3, h4⟩, k1, k2⟩ := h
  exact ⟨F1, h1, k1, fun i hi => k2 i ((h3 i).2 (.inl hi))⟩
theorem Turn.add [fa : Frame A] (h : Turn A W w F0 s) (k : Upd no w w') {G : Fp} (hB : B w' G t) (hG : ∀ i, G i → w.heap.size ≤ i) : Turn (Star A B) W w' F0 (s, t) := by
  obtain ⟨F, h1, h2, h3⟩ := h
  refine ⟨fun i => F i ∨ G i, ⟨F, G, fa.upd h1 k (fun _ _ h => h), hB, fun _ => Iff.rfl, fun i hi hf => ?_⟩, h2.trans k (fun _ _ h => h.elim), fun i hi => ?_⟩
  · have := fa.lt h1 i hi; have := hG i hf; omega
  · rcases hi with hi | hi
    · exact h3 i hi
    · exact .inr (Nat.le_trans h2.size (hG i hi))
end

/-- A new object beside what there is. -/
theorem Mine.new (h : Upd no W w) (k : Upd no w w') {G : Fp} (hB : B w' G t) (hG : ∀ i, G i → w.heap.size ≤ i) : Mine W w' B t :=
  ⟨G, hB, h.trans k (fun _ _ h => h), fun i hi => Nat.le_trans h.size (hG i hi)⟩
theorem Mine.add [fa : Frame A] (h : Mine W w A s) (k : Upd no w w') {G : Fp} (hB : B w' G t) (hG : ∀ i, G i → w.heap.size ≤ i) : Mine W w' (Star A B) (s, t) := by
  obtain ⟨F, h1, h2, h3⟩ := h
  refine ⟨fun i => F i ∨ G i, ⟨F, G, fa.upd h1 k (fun _ _ h => h), hB, fun _ => Iff.rfl, fun i hi hf => ?_⟩, h2.trans k (fun _ _ h => h), fun i hi => ?_⟩
  · have := fa.lt h1 i hi; have := hG i hf; omega
  · rcases hi with hi | hi
    · exact h3 i hi
    · exact Nat.le_trans h2.size (hG i hi)
end

/-! ### Plain objects -/

/-- A block of known cells. -/
def Rw {σ : Type} (b : Nat) (T : TypeId) (enc : σ → List Value) : Ob σ := fun w F s => (∀ i, F i ↔ i = b) ∧ Blk w b (enc s) T
instance Frame.rw {σ : Type} (b : Nat) (T : TypeId) (enc : σ → List Value) : Frame (Rw b T enc) where
  upd := fun ⟨h1, h2⟩ k hG => ⟨h1, h2.upd k (hG _ ((h1 _).2 rfl))⟩
  lt := fun ⟨h1, h2⟩ i hi => (h1 i).1 hi ▸ h2.lt

section
variable {σ : Type} {b : Nat} {T : TypeId} {enc : σ → List Value} {w w' : World} {F : Fp} {s s' : σ}
theorem Rw.blk (h : Rw b T enc w F s) : Blk w b (enc s) T := h.2
theorem Rw.new {c : List Value} (h : Newed w w' (.cells c.toArray T (0, 0))) (he : enc s = c) : Rw w.heap.size T enc w' (fun i => i = w.heap.size) s := ⟨fun _ => Iff.rfl, he ▸ h.blk'⟩
/-- Behind writes into the block alone. -/
theorem Rw.turned (h : Rw b T enc w F s) (k : Upd (fun i => i = b) w w') (hb : Blk w' b (enc s') T) : Turn (Rw b T enc) w w' F s' :=
  ⟨F, ⟨h.1, hb⟩, k.mono (fun i _ hi => (h.1 i).2 hi), fun _ hi => .inl hi⟩
theorem Wrote.U {w w' : World} {b : Nat} {c : List Value} {T : TypeId} (h : Wrote w w' b c T) : Upd (fun i => i = b) w w' := h.upd rfl
theorem Upd.and {F : Fp} {w w1 w2 : World} (h : Upd F w w1) (k : Upd F w1 w2) : Upd F w w2 := h.trans k (fun _ _ h => h)
end

theorem atBlk {σ : Type} {b : Nat} {T : TypeId} {enc : σ → List Value} {w : World} {s : σ} {Q : Fp → Prop} (h : ∃ F, Rw b T enc w F s ∧ Q F) : Blk w b (enc s) T := by
  obtain ⟨F, h1, _⟩ := h
  exact h1.blk

/-- A list of numbers, owned. -/
def Ls (T : TypeId) : Ob (Option Addr × Nat × List Int) := fun w F x => (∀ i, F i ↔ fpS x.1 i) ∧ Sl w T 1 x.1 x.2.2.length x.2.1 (x.2.2.map (Value.int .i64))
instance Frame.ls (T : TypeId) : Frame (Ls T) where
  upd := fun ⟨h1, h2⟩ k hG => ⟨h1, h2.upd k (fun i hi => hG i ((h1 i).2 hi))⟩
  lt := fun ⟨h1, h2⟩ i hi => h2.lt i ((h1 i).1 hi)
theorem Ls.nil (w : World) (T : TypeId) : Ls T w (fun _ => False) (none, 0, []) := ⟨fun i => ⟨fun h => h.elim, fun ⟨a, ha, _⟩ => by cases ha⟩, Sl.nil _ _ _⟩
theorem Ls.push {P : Program} {t T T' : TypeId} {z : List Value} (he : ElemT P t T 1 8 z) {w w1 : World} {F : Fp} {p : Option Addr} {c : Nat} {l : List Int} {x : Int} (h : Ls T w F (p, c, l)) (hb : l.length ≤ 1048576)
    (hN : Newed w w1 (.cells (List.toArray [Value.int .i64 x]) T' (0, 0))) (ty : TypeId) :
    ∃ p' c' w2, (Builtin.append_ #[t, t] ty #[.slice p l.length c, .slice (some ⟨w.heap.size, 0, none⟩) 1 1]).run P w1 = .ok (.slice p' (l ++ [x]).length c') w2 ∧ Turn (Ls T) w w2 F (p', c', l ++ [x]) := by
  obtain ⟨p', n', c', w2, hr, hn, hS, hU, hF⟩ := append1 he h.2 hb hN ty
  subst hn
  exact ⟨p', c', w2, hr, fpS p', ⟨fun _ => Iff.rfl, hS⟩, hU.mono (fun i _ hi => (h.1 i).2 hi), fun i hi => (hF i hi).imp (fun k => (h.1 i).2 k) id⟩

/-! ### A block that holds a slice of its own -/

theorem Sl.wr {w : World} {T : TypeId} {sz n c : Nat} {a : Addr} {cs vs : List Value} {o : Nat} (h : Sl w T sz (some a) n c cs) (ho : o + vs.length ≤ n * sz) {K : World → Prop}
    (hK : ∀ w', Sl w' T sz (some a) n c (setL cs o vs) → Upd (fpS (some a)) w w' → K w') : Wr w (a.add o) vs K := by
  obtain ⟨h1, h2, h3, cells, hb, hsp, hfit, htk⟩ := h
  obtain ⟨b, off, sp⟩ := a
  simp only at hsp hb hfit htk
  subst hsp
  have hle : n * sz ≤ c * sz := Nat.mul_le_mul_right _ h2
  rw [add_lit]
  refine ⟨⟨cells, T, hb, rfl, by show off + o + vs.length ≤ cells.length; omega, fun w' hW => hK w' ?_ (hW.upd ⟨_, rfl, rfl⟩)⟩⟩
  have hl : (setL cells (off + o) vs).length = cells.length := setL_length (by omega)
  refine ⟨by rw [setL_length (by omega), h1], h2, h3, _, hW.blk, rfl, by rw [hl]; exact hfit, ?_⟩
  subst htk
  have hlen : ((cells.drop off).take (n * sz)).length = n * sz := h1
  apply List.ext_getElem?
  intro j
  unfold setL
  simp only [List.getElem?_take, List.getElem?_drop, List.getElem?_append, List.length_append, List.length_take, List.length_drop]
  grind

/-- A block with a slice that is its own: what it stands for, and the slice's place and room. -/
def Hd {σ : Type} (b : Nat) (T E : TypeId) (sz : Nat) (enc : σ → Option Addr → Nat → List Value) (len : σ → Nat) (cont : σ → List Value) : Ob (σ × Option Addr × Nat) := fun w F x =>
  Blk w b (enc x.1 x.2.1 x.2.2) T ∧ Sl w E sz x.2.1 (len x.1) x.2.2 (cont x.1) ∧ ¬ fpS x.2.1 b ∧ ∀ i, F i ↔ i = b ∨ fpS x.2.1 i

instance Frame.hd {σ : Type} (b : Nat) (T E : TypeId) (sz : Nat) (enc : σ → Option Addr → Nat → List Value) (len : σ → Nat) (cont : σ → List Value) : Frame (Hd b T E sz enc len cont) where
  upd := fun ⟨h1, h2, h3, h4⟩ k hG => ⟨h1.upd k (hG _ ((h4 _).2 (.inl rfl))), h2.upd k (fun i hi => hG i ((h4 i).2 (.inr hi))), h3, h4⟩
  lt := fun ⟨h1, h2, h3, h4⟩ i hi => by
    rcases (h4 i).1 hi with h | h
    · exact h ▸ h1.lt
    · exact h2.lt i h

section
variable {σ : Type} {b : Nat} {T E : TypeId} {sz : Nat} {enc : σ → Option Addr → Nat → List Value} {len : σ → Nat} {cont : σ → List Value} {w w1 w' : World} {F : Fp} {s s' : σ} {y : Option Addr × Nat}

theorem Hd.blk {x : σ × Option Addr × Nat} (h : Hd b T E sz enc len cont w F x) : Blk w b (enc x.1 x.2.1 x.2.2) T := h.1
theorem Hd.sl {x : σ × Option Addr × Nat} (h : Hd b T E sz enc len cont w F x) : Sl w E sz x.2.1 (len x.1) x.2.2 (cont x.1) := h.2.1

theorem Hd.nil {c : List Value} (h : Newed w w' (.cells c.toArray T (0, 0))) (he : enc s none 0 = c) (hl : len s = 0) (hc : cont s = []) : Hd w.heap.size T E sz enc len cont w' (fun i => i = w.heap.size) (s, none, 0) :=
  ⟨he ▸ h.blk', by rw [hl, hc]; exact Sl.nil _ _ _, fun ⟨a, ha, _⟩ => (by cases ha), fun i => ⟨.inl, fun h => h.elim id (fun ⟨a, ha, _⟩ => by cases ha)⟩⟩

/-- The slice's memory, or another one, is turned; the block is written behind. -/
theorem Hd.put (h : Hd b T E sz enc len cont w F (s, y)) {p' : Option Addr} {c' : Nat} (hS : Sl w1 E sz p' (len s') c' (cont s')) (hU : Upd (fpS y.1) w w1) (hp : ∀ i, fpS p' i → fpS y.1 i ∨ w.heap.size ≤ i)
    (hW : Wrote w1 w' b (enc s' p' c') T) : Turn (Hd b T E sz enc len cont) w w' F (s', p', c') := by
  obtain ⟨h1, h2, h3, h4⟩ := h
  have hb' : ¬ fpS p' b := fun hi => by
    rcases hp b hi with hi | hi
    · exact h3 hi
    · have := h1.lt; omega
  refine ⟨fun i => i = b ∨ fpS p' i, ⟨hW.blk', hS.upd (hW.upd (F := fun i => i = b) rfl) (fun i hi e => hb' (e ▸ hi)), hb', fun _ => Iff.rfl⟩, ?_, ?_⟩
  · exact (hU.mono (fun i _ hi => (h4 i).2 (.inr hi))).trans (hW.upd (F := fun i => i = b) rfl) (fun i _ e => (h4 i).2 (.inl e))
  · rintro i (rfl | hi)
    · exact .inl ((h4 i).2 (.inl rfl))
    · exact (hp i hi).imp (fun k => (h4 i).2 (.inr k)) id
/-- The block alone is written; the slice stays. -/
theorem Hd.field (h : Hd b T E sz enc len cont w F (s, y)) (hl : len s' = len s) (hc : cont s' = cont s) (hW : Wrote w w' b (enc s' y.1 y.2) T) : Turn (Hd b T E sz enc len cont) w w' F (s', y) :=
  h.put (by rw [hl, hc]; exact h.2.1) (Upd.refl _ _) (fun _ hi => .inl hi) hW
/-- The slice's memory alone is written. -/
theorem Hd.elems (h : Hd b T E sz enc len cont w F (s, y)) (hS : Sl w' E sz y.1 (len s') y.2 (cont s')) (hU : Upd (fpS y.1) w w') (he : enc s' y.1 y.2 = enc s y.1 y.2) : Turn (Hd b T E sz enc len cont) w w' F (s', y) := by
  obtain ⟨h1, h2, h3, h4⟩ := h
  exact ⟨F, ⟨by show Blk w' b (enc s' y.1 y.2) T; rw [he]; exact h1.upd hU h3, hS, h3, h4⟩, hU.mono (fun i _ hi => (h4 i).2 (.inr hi)), fun _ hi => .inl hi⟩
/-- The block, behind what has turned the slice's memory alone. -/
theorem Hd.blkU (h : Hd b T E sz enc len cont w F (s, y)) (hU : Upd (fpS y.1) w w1) : Blk w1 b (enc s y.1 y.2) T := h.1.upd hU h.2.2.1
theorem atHd {Q : Fp → Prop} {x : σ × Option Addr × Nat} (h : ∃ F, Hd b T E sz enc len cont w F x ∧ Q F) : Blk w b (enc x.1 x.2.1 x.2.2) T := by
  obtain ⟨F, h1, _⟩ := h
  exact h1.1
theorem atSl {Q : Fp → Prop} {x : σ × Option Addr × Nat} (h : ∃ F, Hd b T E sz enc len cont w F x ∧ Q F) : Sl w E sz x.2.1 (len x.1) x.2.2 (cont x.1) := by
  obtain ⟨F, h1, _⟩ := h
  exact h1.2.1
end

end Go.Dav
