/- What the functions of a queue by priorities come to. -/
import Derived.Test.YtgakbnonkgohfaaDoorFifo10d
import Derived.Test.YtgakbnonkgohfaaDoorDrop10d
import Derived.Test.YtgakbnonkgohfaaDoorList910d
import Derived.Test.YtgakbnonkgohfaaDoorMap
import Derived.Test.YtgakbnonkgohfaaDoorFam
set_option linter.unusedSimpArgs false
set_option linter.unusedVariables false
namespace Go.Dav
open Go.Proofs
theorem mpT : MapT Tryd.prog 51 3 3 (.int .i64 0) := ⟨by kernel_rfl, by kernel_rfl, by kernel_rfl, by kernel_rfl⟩

abbrev Its := List (Int × Int)
def lvIds (L : Its) (p : Nat) : List Int := (L.filter (fun e => decide (e.1 = (p : Int)))).map (·.2)
abbrev PLv := Nat × Nat × List Int
def Lvl : Ob PLv := fun w F s => FqO s.1 w F s.2
instance Frame.lvl : Frame Lvl where
  upd := fun {_ _ _ _ s} h k hG => (Frame.fq s.1).upd h k hG
  lt := fun {_ _ s} h => (Frame.fq s.1).lt h
def ptrV (b : Nat) : Value := .pointer (some ⟨b, 0, none⟩)
def pqE (r : Nat) (x : List Value × Nat) : List Value := x.1 ++ [.map (some r), .int .i64 x.2]
abbrev PqR (q r : Nat) : Ob ((((Int → Option Int) × Nat) × (List Value × Nat)) × List PLv) := Star (Star (MapO r (Value.int .i64)) (Rw q 75 (pqE r))) (Fam Lvl)
def lvs (B : Nat → Nat) (m : Nat) (L : Its) : List PLv := (List.range 8).map fun i => (B i, m, lvIds L i)
def bks (B : Nat → Nat) : List Value := (List.range 8).map fun i => ptrV (B i)
structure PqI (x : Nat × Its) (g : (Int → Option Int) × Nat) : Prop where
  map : ∀ k v, g.1 k = some v ↔ (v, k) ∈ x.2
  len : g.2 = x.2.length
  one : (x.2.map (·.2)).Nodup
  rng : ∀ e ∈ x.2, 0 ≤ e.1 ∧ e.1 < 8
  room : x.2.length ≤ x.1
  most : 1 ≤ x.1 ∧ x.1 ≤ 1024
/-- A queue by priorities: how many there may be, and (priority, number) as they came. -/
def PqO (q : Nat) : Ob (Nat × Its) := fun w F x => ∃ r B g, PqR q r w F ((g, (bks B, x.1)), lvs B x.1 x.2) ∧ PqI x g
instance Frame.pq (q : Nat) : Frame (PqO q) where
  upd := fun ⟨r, B, g, h, k⟩ hU hG => ⟨r, B, g, Frame.star.upd h hU hG, k⟩
  lt := fun ⟨_, _, _, h, _⟩ => Frame.star.lt h
section
variable {q r : Nat} {w w' : World} {F : Fp} {x : Nat × Its} {g : (Int → Option Int) × Nat} {B : Nat → Nat}
theorem pq_blk {y : (((Int → Option Int) × Nat) × (List Value × Nat)) × List PLv} (h : PqR q r w F y) : Blk w q (pqE r y.1.2) 75 := by
  obtain ⟨F1, F2, ⟨F3, F4, _, h1, _⟩, _⟩ := h
  exact h1.blk
theorem pq_map {y : (((Int → Option Int) × Nat) × (List Value × Nat)) × List PLv} (h : PqR q r w F y) : ∃ F1, MapO r (Value.int .i64) w F1 y.1.1 := by
  obtain ⟨F1, F2, ⟨F3, F4, h1, _⟩, _⟩ := h
  exact ⟨_, h1⟩
theorem pq_cell {y : (((Int → Option Int) × Nat) × (List Value × Nat)) × List PLv} (h : PqR q r w F y) (hl : y.1.2.1.length = 8) : w.cell? ((⟨q, 0, none⟩ : Addr).add 8) = some (.map (some r)) ∧ w.cell? ((⟨q, 0, none⟩ : Addr).add 9) = some (.int .i64 y.1.2.2) := by
  have hb := pq_blk h
  exact ⟨hb.cell (by simp [pqE, hl]), hb.cell (by simp [pqE, hl])⟩
theorem bks_len (B : Nat → Nat) : (bks B).length = 8 := by simp [bks]

def prioE (x : Nat × Its) (k : Int) : Int × Bool := match x.2.find? (fun e => decide (e.2 = k)) with
  | none => (0, false)
  | some e => (e.1, true)
theorem nodup_key : ∀ {L : Its} (_ : (L.map (·.2)).Nodup) {a b : Int × Int} (_ : a ∈ L) (_ : b ∈ L) (_ : a.2 = b.2), a = b
  | c :: L, hn, a, b, ha, hb, h => by
    rw [List.map_cons, List.nodup_cons] at hn
    rcases List.mem_cons.1 ha with ha | ha <;> rcases List.mem_cons.1 hb with hb | hb
    · rw [ha, hb]
    · exact absurd (List.mem_map.2 ⟨b, hb, by rw [← h, ha]⟩) hn.1
    · exact absurd (List.mem_map.2 ⟨a, ha, by rw [h, hb]⟩) hn.1
    · exact nodup_key hn.2 ha hb h
theorem PqI.prio (h : PqI x g) (k : Int) : ((g.1 k).map (Value.int .i64)).getD (.int .i64 0) = .int .i64 (prioE x k).1 ∧ (g.1 k).isSome = (prioE x k).2 := by
  unfold prioE
  cases hf : x.2.find? (fun e => decide (e.2 = k)) with
  | none =>
    have : g.1 k = none := by
      cases hg : g.1 k with
      | none => rfl
      | some v =>
        have := List.find?_eq_none.1 hf _ ((h.map k v).1 hg)
        simp at this
    simp [this]
  | some e =>
    have hm := List.mem_of_find?_eq_some hf
    have hk := List.find?_some hf
    simp at hk
    have : g.1 k = some e.1 := (h.map k e.1).2 (by rw [← hk]; exact hm)
    simp [this]

theorem plen_ok (h : PqO q w F x) : Calls Tryd.prog 37 #[.pointer (some ⟨q, 0, none⟩)] w fun e w' => e = .returned (.int .i64 x.2.length) ∧ w' = w := by
  obtain ⟨r, B, g, h, hi⟩ := h
  obtain ⟨F1, hm⟩ := pq_map h
  refine u37 ?_
  rw [t37]
  refine ⟨fun h => by simp at h, fun _ => ⟨_, rfl, _, (pq_cell h (bks_len B)).1, _, fun ty => run_mlen mpT hm ty, by simp only [hi.len], rfl⟩⟩
theorem prio_ok (h : PqO q w F x) (k : Int) : Calls Tryd.prog 35 #[.pointer (some ⟨q, 0, none⟩), .int .i64 k] w fun e w' => e = .returned (.tuple #[.int .i64 (prioE x k).1, .bool (prioE x k).2]) ∧ w' = w := by
  obtain ⟨r, B, g, h, hi⟩ := h
  obtain ⟨F1, hm⟩ := pq_map h
  refine u35 ?_
  rw [t35]
  refine ⟨fun h => by simp at h, fun _ => ⟨_, rfl, _, (pq_cell h (bks_len B)).1, (prioE x k).1, (prioE x k).2, ?_, rfl, rfl⟩⟩
  rw [run_lookup mpT hm k true, ← (hi.prio k).1, ← (hi.prio k).2]
  rfl

/-! ### The levels -/
def L8 : List (Fin 8) := [0, 1, 2, 3, 4, 5, 6, 7]
theorem l8_at {i : Nat} {v : Fin 8} (h : L8[i]? = some v) : v.val = i := by
  have hi : i < 8 := (List.getElem?_eq_some_iff.1 h).1
  have hA : ∀ i : Fin 8, L8[i.val]? = some i := by decide
  have := hA ⟨i, hi⟩
  simp only at this
  rw [h] at this
  cases this
  rfl
def listOf (L : Its) : List Int := L8.reverse.flatMap fun i => lvIds L i.val
def topE (x : Nat × Its) : Int × Int := match listOf x.2 with
  | [] => (0, 12)
  | a :: _ => (a, 0)
theorem flat_find {α : Type} {f : α → List Int} : ∀ {l : List α}, (l.find? (fun i => decide (0 < (f i).length)) = none ∧ l.flatMap f = []) ∨ ∃ i a t t', l.find? (fun i => decide (0 < (f i).length)) = some i ∧ i ∈ l ∧ f i = a :: t ∧ l.flatMap f = a :: t'
  | [] => .inl ⟨rfl, rfl⟩
  | i :: l => by
    cases hf : f i with
    | nil =>
      rcases flat_find (f := f) (l := l) with ⟨h1, h2⟩ | ⟨j, a, t, t', h1, h2, h3, h4⟩
      · exact .inl ⟨by simp [List.find?_cons, hf, h1], by simp [hf, h2]⟩
      · exact .inr ⟨j, a, t, t', by simp [List.find?_cons, hf, h1], List.mem_cons_of_mem _ h2, h3, by simp [hf, h4]⟩
    | cons a t => exact .inr ⟨i, a, t, t ++ l.flatMap f, by simp [List.find?_cons, hf], List.mem_cons_self, hf, by simp [hf]⟩
theorem lvs_len {m : Nat} {L : Its} : (lvs B m L).length = 8 := by simp [lvs]
theorem pq_lvl (h : PqR q r w F ((g, (bks B, x.1)), lvs B x.1 x.2)) (i : Fin 8) : ∃ F1, FqO (B i.val) w F1 (x.1, lvIds x.2 i.val) := by
  obtain ⟨F2, h2, _⟩ := Star.right h
  obtain ⟨F1, h1, _⟩ := Fam.at h2 (i := i.val) (by rw [lvs_len]; exact i.isLt)
  refine ⟨F1, ?_⟩
  have : (lvs B x.1 x.2)[i.val]'(by rw [lvs_len]; exact i.isLt) = (B i.val, x.1, lvIds x.2 i.val) := by simp [lvs]
  rw [this] at h1
  exact h1
theorem pq_ptr (h : PqR q r w F ((g, (bks B, x.1)), lvs B x.1 x.2)) : ∀ i v, L8[i]? = some v → w.cell? ⟨q, i, none⟩ = some (.pointer (some ⟨B v.val, 0, none⟩)) := by
  intro i v hv
  have h1 := l8_at hv
  have h2 := v.isLt
  rw [cell_blk (pq_blk h)]
  subst h1
  simp only [pqE]
  rw [List.getElem?_append_left (by rw [bks_len]; exact h2)]
  simp [bks, ptrV, h2]
theorem top_ok (h : PqR q r w F ((g, (bks B, x.1)), lvs B x.1 x.2)) : Calls Tryd.prog 64 #[.pointer (some ⟨q, 0, none⟩)] w fun e w' =>
    e = .returned (topV (fun v : Fin 8 => B v.val) (fun v => (lvIds x.2 v.val).length) L8.reverse) ∧ Upd no w w' := by
  refine Tryd.top_in _ _ L8 rfl q w (pq_blk h).lt (pq_ptr h) fun v W hW => ?_
  obtain ⟨F1, h1⟩ := pq_lvl h v
  exact qlen_ok ((Frame.fq _).upd h1 hW (fun _ _ h => h))
theorem topq_ok (h : PqO q w F x) : Calls Tryd.prog 45 #[.pointer (some ⟨q, 0, none⟩)] w fun e w' => e = .returned (.tuple #[.int .i64 (topE x).1, .int .i64 (topE x).2]) ∧ Upd no w w' := by
  obtain ⟨r, B, g, h, hi⟩ := h
  refine u45 ?_
  rw [t45]
  refine ⟨(top_ok h).mono ?_⟩
  rintro e w1 ⟨rfl, hU⟩
  unfold topV topE listOf
  rcases flat_find (f := fun v : Fin 8 => lvIds x.2 v.val) (l := L8.reverse) with ⟨h1, h2⟩ | ⟨j, a, t, t', h1, h2, h3, h4⟩
  · rw [h1, h2]
    exact ⟨_, _, rfl, fun _ => ⟨rfl, hU⟩, fun k => by simp at k⟩
  · rw [h1, h4]
    refine ⟨_, _, rfl, fun k => by simp at k, fun _ => ?_⟩
    obtain ⟨F1, k1⟩ := pq_lvl h j
    refine ⟨(qfront_ok ((Frame.fq _).upd k1 hU (fun _ _ h => h))).mono ?_⟩
    rintro e w2 ⟨rfl, hU2⟩
    refine ⟨_, _, rfl, ?_, hU.and hU2⟩
    simp [frontE, h3]
theorem lv_len (h : PqI x g) (p : Nat) : (lvIds x.2 p).length ≤ 1024 := by
  have h1 := h.room
  have h2 := h.most
  have h3 : (lvIds x.2 p).length ≤ x.2.length := by unfold lvIds; rw [List.length_map]; exact List.length_filter_le _ _
  omega
theorem listq_ok (h : PqO q w F x) : Calls Tryd.prog 38 #[.pointer (some ⟨q, 0, none⟩)] w fun e w' => ∃ p c, e = .returned (.slice p (listOf x.2).length c) ∧ Loc w w' 3 p c (listOf x.2) := by
  obtain ⟨r, B, g, h, hi⟩ := h
  refine Tryd.list_in (fun v : Fin 8 => B v.val) (fun v => lvIds x.2 v.val) L8 rfl q w (pq_blk h).lt elI (pq_ptr h) (fun v => lv_len hi v.val) fun v W hW => ?_
  obtain ⟨F1, k1⟩ := pq_lvl h v
  obtain ⟨g, y, h1, h2, h3, h4, h5⟩ := (Frame.fq _).upd k1 hW (fun _ _ h => h)
  have h4 : view g = lvIds x.2 v.val := h4
  rw [← h4]
  exact list_ok h1 h2

/-! ### What turns -/
theorem Star.left' {σ τ : Type} {A : Ob σ} {B : Ob τ} [Frame B] {a : σ} {b : τ} (h : Star A B w F (a, b)) : ∃ F1, A w F1 a ∧ ∀ w' s', Turn A w w' F1 s' → Turn (Star A B) w w' F (s', b) := Star.left h
theorem pq_mapT {y : List Value × Nat} {ls : List PLv} (h : PqR q r w F ((g, y), ls)) : ∃ F1, MapO r (Value.int .i64) w F1 g ∧ ∀ w' g', Turn (MapO r (Value.int .i64)) w w' F1 g' → Turn (PqR q r) w w' F ((g', y), ls) := by
  obtain ⟨F1, h1, k1⟩ := Star.left h
  obtain ⟨F2, h2, k2⟩ := Star.left h1
  exact ⟨F2, h2, fun w' g' ht => k1 _ _ (k2 _ _ ht)⟩
theorem lvs_set {m : Nat} {L L' : Its} {i : Nat} (hi : i < 8) {l' : List Int} (h1 : lvIds L' i = l') (h2 : ∀ j, j ≠ i → lvIds L' j = lvIds L j) : (lvs B m L).set i (B i, m, l') = lvs B m L' := by
  apply List.ext_getElem
  · simp [lvs]
  · intro j a b
    rw [List.getElem_set]
    simp only [lvs, List.getElem_map, List.getElem_range]
    split
    · rename_i h
      subst h
      rw [h1]
    · rename_i h
      rw [h2 j (by omega)]
theorem pq_lvlT {m : Nat} {L : Its} {y : List Value × Nat} (h : PqR q r w F ((g, y), lvs B m L)) {i : Nat} (hi : i < 8) : ∃ F1, FqO (B i) w F1 (m, lvIds L i) ∧
    ∀ w' l', Turn (FqO (B i)) w w' F1 (m, l') → ∀ L', lvIds L' i = l' → (∀ j, j ≠ i → lvIds L' j = lvIds L j) → Turn (PqR q r) w w' F ((g, y), lvs B m L') := by
  obtain ⟨F2, h2, k2⟩ := Star.right h
  obtain ⟨F1, h1, _, k1⟩ := Fam.at h2 (i := i) (by rw [lvs_len]; exact hi)
  have : (lvs B m L)[i]'(by rw [lvs_len]; exact hi) = (B i, m, lvIds L i) := by simp [lvs]
  rw [this] at h1
  refine ⟨F1, h1, fun w' l' ht L' e1 e2 => ?_⟩
  have := k2 _ _ (k1 w' (B i, m, l') ht)
  rw [lvs_set hi e1 e2] at this
  exact this
theorem Turn.pq (h : Turn (PqR q r) w w' F ((g, (bks B, x.1)), lvs B x.1 x.2)) (k : PqI x g) : Turn (PqO q) w w' F x := by
  obtain ⟨F', h1, h2⟩ := h
  exact ⟨F', ⟨r, B, g, h1, k⟩, h2⟩
theorem Turn.glue {σ : Type} {A : Ob σ} {s2 : σ} {w1 w2 w3 : World} {F3 : Fp} (h0 : Upd F w w1) (u3 : Upd F w1 w2) (f3 : ∀ i, F3 i → F i ∨ w1.heap.size ≤ i) (k : Turn A w2 w3 F3 s2) : Turn A w w3 F s2 := by
  obtain ⟨F', h1, h2, h3⟩ := k
  have hs := h0.size
  have hs2 := u3.size
  refine ⟨F', h1, (h0.and u3).trans h2 (fun i hi hF => (f3 i hF).elim id (fun h => by omega)), fun i hF => ?_⟩
  rcases h3 i hF with h | h
  · exact (f3 i h).imp id (fun h => by omega)
  · exact .inr (by omega)
def inE (x : Nat × Its) (k : Int) : Bool := (x.2.map (·.2)).contains k
def pqPushE (x : Nat × Its) (p k : Int) : Int := if p < 0 ∨ 8 ≤ p then 2 else if inE x k then 6 else if x.1 ≤ x.2.length then 5 else 0
def pqPushS (x : Nat × Its) (p k : Int) : Nat × Its := if pqPushE x p k = 0 then (x.1, x.2 ++ [(p, k)]) else x
def pqDropE (x : Nat × Its) (k : Int) : Int := if inE x k then 0 else 4
def pqDropS (x : Nat × Its) (k : Int) : Nat × Its := (x.1, x.2.filter fun e => decide (e.2 ≠ k))
def pqBackE (x : Nat × Its) (k : Int) : Int := pqDropE x k
def pqBackS (x : Nat × Its) (k : Int) : Nat × Its := if inE x k then (x.1, (pqDropS x k).2 ++ [((prioE x k).1, k)]) else x
def pqTurnE (x : Nat × Its) : Int := (topE x).2
def pqTurnS (x : Nat × Its) : Nat × Its := if pqTurnE x = 0 then pqBackS x (topE x).1 else x

theorem lv_push (L : Its) (p k : Int) (i : Nat) : lvIds (L ++ [(p, k)]) i = lvIds L i ++ (if p = (i : Int) then [k] else []) := by
  unfold lvIds
  rw [List.filter_append, List.map_append]
  congr 1
  by_cases h : p = (i : Int) <;> simp [h]
theorem lv_drop (L : Its) (k : Int) (i : Nat) : lvIds (L.filter fun e => decide (e.2 ≠ k)) i = (lvIds L i).filter fun a => decide (a ≠ k) := by
  unfold lvIds
  rw [List.filter_map, List.filter_filter, List.filter_filter]
  congr 1
  apply List.filter_congr
  intro e _
  simp [Bool.and_comm]
theorem lv_mem {L : Its} {i : Nat} {k : Int} : k ∈ lvIds L i ↔ ((i : Int), k) ∈ L := by
  unfold lvIds
  simp
theorem lv_nodup {L : Its} (h : (L.map (·.2)).Nodup) (i : Nat) : (lvIds L i).Nodup := by
  unfold lvIds
  exact List.Nodup.sublist (List.Sublist.map _ List.filter_sublist) h
theorem in_iff {k : Int} : inE x k = true ↔ ∃ p, (p, k) ∈ x.2 := by
  unfold inE
  simp
theorem PqI.in_some (h : PqI x g) (k : Int) : (g.1 k).isSome = inE x k := by
  rw [Bool.eq_iff_iff, in_iff, Option.isSome_iff_exists]
  exact ⟨fun ⟨v, hv⟩ => ⟨v, (h.map k v).1 hv⟩, fun ⟨v, hv⟩ => ⟨v, (h.map k v).2 hv⟩⟩
theorem PqI.push (h : PqI x g) {p k : Int} (hp : 0 ≤ p ∧ p < 8) (hk : inE x k = false) (hl : x.2.length < x.1) : PqI (x.1, x.2 ++ [(p, k)]) (mput g k p) := by
  have hs := h.in_some k
  rw [hk] at hs
  have hnone : g.1 k = none := by cases hg : g.1 k <;> simp_all
  have hno : ∀ v, (v, k) ∉ x.2 := fun v hv => by have := in_iff.2 ⟨v, hv⟩; rw [hk] at this; cases this
  refine ⟨?_, ?_, ?_, ?_, ?_, h.most⟩
  · intro a v
    simp only [mput]
    split
    · rename_i e
      subst e
      simp only [List.mem_append, List.mem_singleton, Prod.mk.injEq, and_true, Option.some.injEq]
      exact ⟨fun e => .inr e.symm, fun e => e.elim (fun e => absurd e (hno v)) (fun e => e.symm)⟩
    · rename_i e
      rw [h.map]
      simp [e]
  · simp only [mput, hs, List.length_append, List.length_singleton, h.len]
    simp
  · rw [List.map_append, List.nodup_append]
    refine ⟨h.one, by simp, fun a ha b hb e => ?_⟩
    simp at hb
    subst hb
    subst e
    obtain ⟨e, he, rfl⟩ := List.mem_map.1 ha
    exact hno e.1 he
  · intro e he
    rcases List.mem_append.1 he with he | he
    · exact h.rng e he
    · simp at he
      subst he
      exact hp
  · simp; omega
theorem ppush_ok (h : PqO q w F x) (p k : Int) : Calls Tryd.prog 47 #[.pointer (some ⟨q, 0, none⟩), .int .i64 p, .int .i64 k] w fun e w' => e = .returned (.int .i64 (pqPushE x p k)) ∧ Turn (PqO q) w w' F (pqPushS x p k) := by
  obtain ⟨r, B, g, h, hi⟩ := id h
  rename_i hO
  obtain ⟨F1, hm⟩ := pq_map h
  have hc := pq_cell h (bks_len B)
  refine u47 ?_
  rw [t47]
  have hlk := run_lookup mpT hm k true
  simp only [if_true, (hi.prio k).1, hi.in_some k] at hlk
  refine ⟨fun h => by simp at h, fun _ => ⟨_, rfl, _, hc.1, _, _, hlk, fun h1 => ⟨fun h2 => ?_, fun h2 => ⟨fun h3 => ?_, fun h3 w1 q1 q2 q3 q4 => ?_⟩⟩, fun h1 => ?_⟩⟩
  · have e : pqPushE x p k = 2 := by simp at h2; unfold pqPushE; rw [if_pos (.inr h2)]
    rw [pqPushS, e]
    exact ⟨rfl, Turn.same hO⟩
  · simp at h1 h2
    have e : pqPushE x p k = 6 := by unfold pqPushE; rw [if_neg (by omega), if_pos h3]
    rw [pqPushS, e]
    exact ⟨rfl, Turn.same hO⟩
  · simp at h1 h2
    have hU := Upd.same no q1 q2 q3 q4
    have h' := Frame.star.upd h hU (fun _ _ h => h)
    have hO' := (Frame.pq q).upd hO hU (fun _ _ h => h)
    obtain ⟨F2, hm2, km⟩ := pq_mapT h'
    have hc' := pq_cell h' (bks_len B)
    refine ⟨_, rfl, _, hc'.1, _, fun ty => run_mlen mpT hm2 ty, _, rfl, _, hc'.2, fun h4 => ?_, fun h4 => ?_⟩
    · simp only [hi.len] at h4
      simp at h4
      have e : pqPushE x p k = 5 := by unfold pqPushE; rw [if_neg (by omega), if_neg (by rw [h3]; simp), if_pos (by omega)]
      rw [pqPushS, e]
      exact ⟨rfl, Turn.quiet hO hU⟩
    · simp only [hi.len] at h4
      simp at h4
      have e : pqPushE x p k = 0 := by unfold pqPushE; rw [if_neg (by omega), if_neg (by rw [h3]; simp), if_neg (by omega)]
      obtain ⟨w2, hr, ht⟩ := run_put mpT hm2 k p
      refine ⟨_, rfl, _, hc'.1, w2, hr, _, rfl, ⟨h1, h2⟩, ?_⟩
      obtain ⟨F3, h3', u3, f3⟩ := km _ _ ht
      obtain ⟨i, rfl⟩ : ∃ i : Nat, p = i := ⟨p.toNat, by omega⟩
      have hi8 : i < 8 := by omega
      obtain ⟨F4, hq4, k4⟩ := pq_lvlT h3' hi8
      have hcell : w2.cell? (((⟨q, 0, none⟩ : Addr).add 0).add (i * 1)) = some (.pointer (some ⟨B i, 0, none⟩)) := by
        have := pq_ptr (x := x) h3' i ⟨i, hi8⟩ (by have hA : ∀ i : Fin 8, L8[i.val]? = some i := by decide
                                                   exact hA ⟨i, hi8⟩)
        simpa [add_lit] using this
      refine ⟨_, hcell, ⟨(qpush_ok hq4 k).mono ?_⟩⟩
      rintro e1 w3 ⟨rfl, ht3⟩
      have hkn : k ∉ lvIds x.2 i := fun hm => by have := in_iff.2 ⟨_, lv_mem.1 hm⟩; rw [h3] at this; cases this
      have hll : (lvIds x.2 i).length ≤ x.2.length := by unfold lvIds; rw [List.length_map]; exact List.length_filter_le _ _
      have e2 : pushE (x.1, lvIds x.2 i) k = 0 := by unfold pushE; simp only; rw [if_neg hkn, if_neg (by omega)]
      rw [pushS, if_pos e2] at ht3
      rw [e2, pqPushS, e, if_pos rfl]
      have T := Turn.pq (x := (x.1, x.2 ++ [((i : Int), k)])) (Turn.glue (hU.mono (fun _ _ h => h.elim)) u3 f3 (k4 _ _ ht3 (x.2 ++ [((i : Int), k)]) (by rw [lv_push, if_pos rfl]) (fun j hj => by rw [lv_push, if_neg (by omega), List.append_nil]))) (hi.push ⟨h1, by omega⟩ h3 (by omega))
      exact ⟨_, rfl, rfl, T⟩
  · have e : pqPushE x p k = 2 := by simp at h1; unfold pqPushE; rw [if_pos (.inl h1)]
    rw [pqPushS, e]
    exact ⟨rfl, Turn.same hO⟩
theorem erase_eq {l : List Int} (h : l.Nodup) (k : Int) : l.erase k = l.filter fun a => decide (a ≠ k) := by
  rw [h.erase_eq_filter]
  apply List.filter_congr
  intro a _
  rw [Bool.eq_iff_iff]
  simp
theorem PqI.drop (h : PqI x g) {k p : Int} (hk : (p, k) ∈ x.2) : PqI (pqDropS x k) (mdel g k) := by
  have hs : (g.1 k).isSome = true := by rw [h.in_some]; exact in_iff.2 ⟨p, hk⟩
  have hl : (x.2.filter fun e => decide (e.2 ≠ k)).length + 1 = x.2.length := by
    have h1 : ∀ L : Its, (L.map (·.2)).Nodup → (p, k) ∈ L → (L.filter fun e => decide (e.2 ≠ k)).length + 1 = L.length := by
      intro L hn hm
      have h2 : (L.filter fun e => decide (e.2 ≠ k)).map (·.2) = (L.map (·.2)).erase k := by
        rw [erase_eq hn, List.filter_map]
        rfl
      have h3 := congrArg List.length h2
      have hm2 : k ∈ L.map (·.2) := List.mem_map.2 ⟨_, hm, rfl⟩
      rw [List.length_map, List.length_erase_of_mem hm2, List.length_map] at h3
      have := List.length_pos_of_mem hm
      omega
    exact h1 x.2 h.one hk
  refine ⟨?_, ?_, ?_, ?_, ?_, h.most⟩
  · intro a v
    simp only [mdel, pqDropS]
    split
    · rename_i e
      subst e
      simp
    · rename_i e
      rw [h.map]
      simp [e]
  · simp only [mdel, hs, pqDropS, h.len, if_true]
    omega
  · exact List.Nodup.sublist (List.Sublist.map _ List.filter_sublist) h.one
  · intro e he
    exact h.rng e (List.mem_filter.1 he).1
  · have := h.room
    simp only [pqDropS]
    omega
theorem prio_in {k p : Int} (hn : (x.2.map (·.2)).Nodup) (hk : (p, k) ∈ x.2) : prioE x k = (p, true) := by
  unfold prioE
  cases hf : x.2.find? (fun e => decide (e.2 = k)) with
  | none =>
    have := List.find?_eq_none.1 hf _ hk
    simp at this
  | some e =>
    have hm := List.mem_of_find?_eq_some hf
    have h1 := List.find?_some hf
    simp at h1
    have := nodup_key hn hm hk (by simpa using h1)
    simp [this]
theorem pdrop_ok (h : PqO q w F x) (k : Int) : Calls Tryd.prog 48 #[.pointer (some ⟨q, 0, none⟩), .int .i64 k] w fun e w' => e = .returned (.int .i64 (pqDropE x k)) ∧ Turn (PqO q) w w' F (if inE x k then pqDropS x k else x) := by
  obtain ⟨r, B, g, h, hi⟩ := id h
  rename_i hO
  obtain ⟨F1, hm, km⟩ := pq_mapT h
  have hc := pq_cell h (bks_len B)
  refine u48 ?_
  rw [t48]
  have hlk := run_lookup mpT hm k true
  simp only [if_true, (hi.prio k).1, hi.in_some k] at hlk
  refine ⟨fun h => by simp at h, fun _ => ⟨_, rfl, _, hc.1, _, _, hlk, fun h1 => ?_, fun h1 => ?_⟩⟩
  · simp at h1
    rw [pqDropE, h1]
    exact ⟨rfl, Turn.same hO⟩
  · have h1 : inE x k = true := by simpa using h1
    obtain ⟨p, hp⟩ := in_iff.1 h1
    have hr := hi.rng _ hp
    rw [prio_in hi.one hp]
    obtain ⟨w2, hrun, ht⟩ := run_del mpT hm k 3 0
    refine ⟨_, rfl, _, hc.1, w2, hrun, _, rfl, ⟨hr.1, hr.2⟩, ?_⟩
    obtain ⟨F3, h3', u3, f3⟩ := km _ _ ht
    obtain ⟨i, rfl⟩ : ∃ i : Nat, p = i := ⟨p.toNat, by have := hr.1; omega⟩
    have hi8 : i < 8 := by have := hr.2; simp at this; omega
    obtain ⟨F4, hq4, k4⟩ := pq_lvlT h3' hi8
    have hcell : w2.cell? (((⟨q, 0, none⟩ : Addr).add 0).add (i * 1)) = some (.pointer (some ⟨B i, 0, none⟩)) := by
      have := pq_ptr (x := x) h3' i ⟨i, hi8⟩ (by have hA : ∀ i : Fin 8, L8[i.val]? = some i := by decide
                                                 exact hA ⟨i, hi8⟩)
      simpa [add_lit] using this
    refine ⟨_, hcell, ⟨(qdrop_ok hq4 k).mono ?_⟩⟩
    rintro e1 w3 ⟨rfl, ht3⟩
    have hkn : k ∈ lvIds x.2 i := lv_mem.2 hp
    have e2 : dropE (x.1, lvIds x.2 i) k = 0 := by unfold dropE; rw [if_pos hkn]
    rw [e2, pqDropE, h1]
    refine ⟨_, rfl, rfl, ?_⟩
    have e3 := erase_eq (lv_nodup hi.one i) k
    have T := Turn.pq (x := pqDropS x k) (Turn.glue (Upd.refl _ _) u3 f3 (k4 _ _ ht3 (pqDropS x k).2 (by rw [e3]; exact lv_drop _ _ _) (fun j hj => by
      rw [pqDropS, lv_drop]
      apply List.filter_eq_self.2
      intro a ha
      rw [decide_eq_true_eq]
      rintro rfl
      have := nodup_key hi.one (lv_mem.1 ha) hp rfl
      simp at this
      omega))) (hi.drop hp)
    exact T

theorem drop_out (x : Nat × Its) (k : Int) : inE (pqDropS x k) k = false := by
  cases h : inE (pqDropS x k) k with
  | false => rfl
  | true =>
    obtain ⟨p, hp⟩ := in_iff.1 h
    simp [pqDropS] at hp
theorem PqI.dropLen (h : PqI x g) {p k : Int} (hk : (p, k) ∈ x.2) : (pqDropS x k).2.length + 1 = x.2.length := by
  have h1 := (h.drop hk).len
  have hs : (g.1 k).isSome = true := by rw [h.in_some]; exact in_iff.2 ⟨p, hk⟩
  have := List.length_pos_of_mem hk
  simp only [mdel, hs, if_true, h.len] at h1
  omega
theorem PqI.back (h : PqI x g) {p k : Int} (hk : (p, k) ∈ x.2) : PqI (pqBackS x k) g := by
  have h1 := h.drop hk
  have h2 := h.dropLen hk
  have h3 := h.room
  have h4 := h1.push (h.rng _ hk) (drop_out x k) (by simp only [pqDropS] at h2 ⊢; omega)
  have hs : (g.1 k).isSome = true := by rw [h.in_some]; exact in_iff.2 ⟨p, hk⟩
  have hg : mput (mdel g k) k p = g := by
    apply Prod.ext
    · funext j
      simp only [mput, mdel]
      split
      · rename_i e
        subst e
        exact ((h.map _ _).2 hk).symm
      · rfl
    · have := h.len
      have := List.length_pos_of_mem hk
      simp [mput, mdel, hs]
      omega
  rw [hg] at h4
  rw [pqBackS, if_pos (in_iff.2 ⟨p, hk⟩), prio_in h.one hk]
  exact h4
theorem topE_some {j : Fin 8} {a : Int} {t' : List Int} (h4 : listOf x.2 = a :: t') : topE x = (a, 0) := by rw [topE, h4]
theorem pturn_ok (h : PqO q w F x) : Calls Tryd.prog 46 #[.pointer (some ⟨q, 0, none⟩)] w fun e w' => e = .returned (.int .i64 (pqTurnE x)) ∧ Turn (PqO q) w w' F (pqTurnS x) := by
  obtain ⟨r, B, g, h, hi⟩ := id h
  rename_i hO
  refine u46 ?_
  rw [t46]
  refine ⟨(top_ok h).mono ?_⟩
  rintro e w1 ⟨rfl, hU⟩
  unfold topV
  rcases flat_find (f := fun v : Fin 8 => lvIds x.2 v.val) (l := L8.reverse) with ⟨h1, h2⟩ | ⟨j, a, t, t', h1, h2, h3, h4⟩
  · rw [h1]
    have e : pqTurnE x = 12 := by rw [pqTurnE, topE, listOf, h2]
    rw [pqTurnS, e]
    exact ⟨_, _, rfl, fun _ => ⟨rfl, Turn.quiet hO hU⟩, fun k => by simp at k⟩
  · rw [h1]
    have et : topE x = (a, 0) := by rw [topE, listOf, h4]
    have e : pqTurnE x = 0 := by rw [pqTurnE, et]
    rw [pqTurnS, e, if_pos rfl, et]
    refine ⟨_, _, rfl, fun k => by simp at k, fun _ => ?_⟩
    have h' := Frame.star.upd h hU (fun _ _ h => h)
    obtain ⟨F4, hq4, k4⟩ := pq_lvlT h' j.isLt
    refine ⟨(qturn_ok hq4).mono ?_⟩
    rintro e1 w3 ⟨rfl, ht3⟩
    have h3 : lvIds x.2 j.val = a :: t := h3
    have e5 : turnE (x.1, lvIds x.2 j.val) = 0 := by simp [turnE, frontE, h3]
    have e6 : turnS (x.1, lvIds x.2 j.val) = (x.1, t ++ [a]) := by simp [turnS, h3]
    rw [e5]
    rw [e6] at ht3
    have hka : ((j.val : Int), a) ∈ x.2 := lv_mem.1 (by rw [h3]; exact List.mem_cons_self)
    have hb : pqBackS x a = (x.1, (pqDropS x a).2 ++ [((j.val : Int), a)]) := by rw [pqBackS, if_pos (in_iff.2 ⟨_, hka⟩), prio_in hi.one hka]
    have hnd := lv_nodup hi.one j.val
    rw [h3, List.nodup_cons] at hnd
    have T := Turn.pq (x := pqBackS x a) (g := g) (B := B) (by
      rw [hb]
      exact Turn.glue (F3 := F) (hU.mono (fun _ _ h => h.elim)) (Upd.refl _ _) (fun i h => .inl h) (k4 _ _ ht3 ((pqDropS x a).2 ++ [((j.val : Int), a)])
        (by
          rw [lv_push, if_pos rfl, pqDropS, lv_drop, h3, List.filter_cons]
          simp only [ne_eq, not_true_eq_false, decide_false, Bool.false_eq_true, if_false]
          congr 1
          apply List.filter_eq_self.2
          intro u hu
          rw [decide_eq_true_eq]
          rintro rfl
          exact hnd.1 hu)
        (fun i hij => by
          rw [lv_push, if_neg (by omega), List.append_nil, pqDropS, lv_drop]
          apply List.filter_eq_self.2
          intro u hu
          rw [decide_eq_true_eq]
          rintro rfl
          have := nodup_key hi.one (lv_mem.1 hu) hka rfl
          simp at this
          omega))) (hi.back hka)
    exact ⟨_, rfl, rfl, T⟩
theorem pback_ok (h : PqO q w F x) (k : Int) : Calls Tryd.prog 50 #[.pointer (some ⟨q, 0, none⟩), .int .i64 k] w fun e w' => e = .returned (.int .i64 (pqBackE x k)) ∧ Turn (PqO q) w w' F (pqBackS x k) := by
  refine u50 ?_
  rw [t50]
  refine ⟨(prio_ok h k).mono ?_⟩
  rintro e w1 ⟨rfl, rfl⟩
  refine ⟨_, _, rfl, ⟨(pdrop_ok h k).mono ?_⟩⟩
  rintro e w2 ⟨rfl, F3, h3, u3, f3⟩
  obtain ⟨r, B, g, _, hi⟩ := h
  cases hk : inE x k with
  | false =>
    have e : pqBackE x k = 4 := by rw [pqBackE, pqDropE, hk]; rfl
    rw [hk] at h3
    rw [e, pqBackS, hk]
    have e' : pqDropE x k = 4 := e
    rw [e']
    exact ⟨_, rfl, fun _ => ⟨rfl, F3, h3, u3, f3⟩, fun h => by simp at h⟩
  | true =>
    have e : pqBackE x k = 0 := by rw [pqBackE, pqDropE, hk]; rfl
    rw [hk, if_pos rfl] at h3
    have e' : pqDropE x k = 0 := e
    rw [e, e', pqBackS, if_pos hk]
    refine ⟨_, rfl, fun h => by simp at h, fun _ => ⟨(ppush_ok h3 _ k).mono ?_⟩⟩
    rintro e w4 ⟨rfl, T4⟩
    obtain ⟨p, hp⟩ := in_iff.1 hk
    have hr := hi.rng _ hp
    have hl := hi.dropLen hp
    have hm := hi.room
    have e7 : pqPushE (pqDropS x k) (prioE x k).1 k = 0 := by
      rw [prio_in hi.one hp, pqPushE, if_neg (by simp only at hr ⊢; omega), if_neg (by rw [drop_out]; simp), if_neg (by simp only [pqDropS] at hl ⊢; omega)]
    rw [pqPushS, if_pos e7] at T4
    rw [e7]
    exact ⟨_, rfl, rfl, Turn.glue (Upd.refl _ _) u3 f3 T4⟩

def okP9 (n : Int) : Prop := 1 ≤ n ∧ n ≤ 1024
def bkN (B : Nat → Nat) (j : Nat) : List Value := ((List.range j).map fun i => ptrV (B i)) ++ List.replicate (8 - j) (.pointer none)
def lvN (B : Nat → Nat) (m j : Nat) : List PLv := (List.range j).map fun i => (B i, m, [])
theorem bk_set {j b m : Nat} (hj : j < 8) : setL (pqE r (bkN B j, m)) j [ptrV b] = pqE r (bkN (fun i => if i = j then b else B i) (j + 1), m) := by
  have h0 : ∀ (l : List Value) (v : Value), j < l.length → setL l j [v] = l.set j v := fun l v h => by
    rw [setL, List.set_eq_take_append_cons_drop, if_pos h]
    simp
  have hl : (bkN B j).length = 8 := by simp [bkN]; omega
  have hl' : (bkN (fun i => if i = j then b else B i) (j + 1)).length = 8 := by simp [bkN]; omega
  rw [h0 _ _ (by simp [pqE, hl]; omega)]
  unfold pqE
  rw [List.set_append_left _ _ (by simp only; omega)]
  congr 1
  show (bkN B j).set j (ptrV b) = bkN (fun i => if i = j then b else B i) (j + 1)
  have e : 8 - j = (8 - (j + 1)) + 1 := by omega
  unfold bkN
  rw [e, List.replicate_succ, List.set_append_right _ _ (by simp), List.length_map, List.length_range, Nat.sub_self, List.set_cons_zero, List.range_succ, List.map_append, List.append_assoc]
  congr 1
  · apply List.map_congr_left
    intro i hi
    have := List.mem_range.1 hi
    simp only
    rw [if_neg (by omega)]
  · simp
theorem lv_snoc {j b m : Nat} : lvN B m j ++ [(b, m, [])] = lvN (fun i => if i = j then b else B i) m (j + 1) := by
  unfold lvN
  rw [List.range_succ, List.map_append]
  congr 1
  · apply List.map_congr_left
    intro i hi
    have := List.mem_range.1 hi
    simp only
    rw [if_neg (by omega)]
  · simp
theorem pnew_ok (n : Int) (w : World) : Calls Tryd.prog 27 #[.int .i64 n] w fun e w' =>
    (¬ okP9 n ∧ e = .returned (.tuple #[.pointer none, .int .i64 2]) ∧ Upd no w w') ∨
    (okP9 n ∧ ∃ b F, e = .returned (.tuple #[.pointer (some ⟨b, 0, none⟩), .int .i64 0]) ∧ PqO b w' F (n.toNat, []) ∧ Upd no w w' ∧ ∀ i, F i → w.heap.size ≤ i) := by
  refine u27 ?_
  rw [t27]
  refine ⟨fun w1 hN1 => ⟨fun w2 hN2 => ?_⟩⟩
  have hM : Mine w w1 (MapO w.heap.size (Value.int .i64)) (fun _ => none, 0) := Mine.new (Upd.refl _ _) (hN1.upd no) (MapO.new hN1) (fun i hi => Nat.le_of_eq hi.symm)
  by_cases hok : okP9 n
  · obtain ⟨m, rfl⟩ : ∃ m : Nat, n = m := ⟨n.toNat, by unfold okP9 at hok; omega⟩
    replace hM : Mine w w2 (Star (MapO w.heap.size (Value.int .i64)) (Rw w1.heap.size 75 (pqE w.heap.size))) ((fun _ => none, 0), (bkN (fun _ => 0) 0, m)) := hM.add (hN2.upd no) (Rw.new hN2 rfl) (fun i hi => Nat.le_of_eq hi.symm)
    obtain ⟨r, hr⟩ : ∃ r, w.heap.size = r := ⟨_, rfl⟩
    rw [hr] at hM
    generalize w1.heap.size = q at hM ⊢
    replace hM : Mine w w2 (PqR q r) (((fun _ => none, 0), (bkN (fun _ => 0) 0, m)), lvN (fun _ => 0) m 0) := hM.add (Upd.refl _ _) (Fam.nil _) (fun i hi => hi.elim)
    clear hN1 hN2
    refine ⟨WP_loop okProg (M := M27) (σ := Nat) (fun j => e27_1 (m : Int) (some ⟨q, 0, none⟩) (j : Int)) (fun j w' => j ≤ 8 ∧ ∃ B, Mine w w' (PqR q r) (((fun _ => none, 0), (bkN B j, m)), lvN B m j)) (fun j _ => 8 - j) 0 ⟨rfl, rfl, rfl, trivial⟩ ⟨by omega, _, hM⟩ ?_⟩
    clear hM
    rintro j w3 ⟨j1, B, hM⟩
    rw [t27_1]
    refine ⟨fun g => ?_, fun g => ?_⟩
    · have hj : j < 8 := by simp at g; omega
      refine ⟨(new_ok m w3).mono ?_⟩
      rintro e w4 hh
      obtain ⟨_, bq, G, rfl, hQ, hU, hG⟩ := hh.resolve_left (fun h => absurd hok h.1)
      refine ⟨_, _, rfl, fun g => by simp at g, fun _ => ⟨_, rfl, ⟨by omega, by omega⟩, ?_⟩⟩
      obtain ⟨F2, hA, hT⟩ := hM.right
      have h5 := hT _ _ (Fam.push (s := ((bq, m, []) : PLv)) hA hU hQ hG)
      rw [lv_snoc] at h5
      obtain ⟨F3, hB3, hT3⟩ := h5.left
      obtain ⟨F4, hB4, hT4⟩ := Star.right hB3
      have hbk : ((⟨q, 0, none⟩ : Addr).add 0).add (j * 1) = (⟨q, 0, none⟩ : Addr).add j := by simp [add_lit]
      simp only [Int.toNat_natCast]
      rw [hbk]
      refine hB4.blk.wr (by simp [pqE, bkN] <;> omega) fun w5 hW => ?_
      refine ⟨j + 1, ⟨rfl, rfl, by rw [w64 (by omega)]; rfl, trivial⟩, ⟨by omega, fun i => if i = j then bq else B i, ?_⟩, by omega⟩
      refine hT3 _ _ (hT4 _ _ (Rw.turned hB4 hW.U ?_))
      rw [← bk_set hj]
      exact hW.blk
    · have : j = 8 := by simp at g; omega
      subst this
      obtain ⟨F, hF1, hF2, hF3⟩ := hM
      refine .inr ⟨hok, q, F, rfl, ⟨r, B, (fun _ => none, 0), ?_, ⟨?_, rfl, List.nodup_nil, fun _ h => by simp at h, Nat.zero_le _, by unfold okP9 at hok; simp; omega⟩⟩, hF2, hF3⟩
      · have e1 : bkN B 8 = bks B := by simp [bkN, bks]
        have e2 : lvN B m 8 = lvs B m [] := rfl
        rw [e1, e2] at hF1
        exact hF1
      · intro k v
        simp
  · have hU := (hN1.upd no).and (hN2.upd no)
    refine ⟨WP_loop okProg (M := M27) (σ := Unit) (fun _ => e27_1 n (some ⟨w1.heap.size, 0, none⟩) 0) (fun _ w' => Upd no w w') (fun _ _ => 0) () ⟨rfl, rfl, rfl, trivial⟩ hU ?_⟩
    rintro _ w3 hU3
    rw [t27_1]
    refine ⟨fun g => ?_, fun g => by simp at g⟩
    refine ⟨(new_ok n w3).mono ?_⟩
    rintro e w4 hh
    obtain ⟨_, rfl, rfl⟩ := hh.resolve_right (fun h => absurd h.1 hok)
    exact ⟨_, _, rfl, fun _ => .inl ⟨hok, rfl, hU3⟩, fun g => by simp at g⟩
end
end Go.Dav
