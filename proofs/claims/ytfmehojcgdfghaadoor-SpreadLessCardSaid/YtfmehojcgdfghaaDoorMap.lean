/- A map with numbers as keys, owned: what it holds at each key, and how many. -/
import Derived.Test.YtfmehojcgdfghaaDoorObj
import Derived.MapKept
set_option linter.unusedSimpArgs false
set_option linter.unusedVariables false
namespace Go.Dav

/-- What the map's type tells. -/
structure MapT (P : Program) (t k e : TypeId) (z : Value) : Prop where
  under : P.underlying t = some (.map k e)
  key : P.underlying k = some (.int .i64)
  ok : okZ P e = true
  zero : zv P e = z

section
variable {α : Type} {f : α → Value}

def EsL (f : α → Value) (es : List MapEntry) (L : List (Int × α)) : Prop := es.map (fun e => (e.key, e.val)) = L.map (fun p => (Value.int .i64 p.1, f p.2))
theorem EsL.len {es : List MapEntry} {L : List (Int × α)} (h : EsL f es L) : es.length = L.length := by simpa [EsL] using congrArg List.length h
theorem EsL.at {es : List MapEntry} {L : List (Int × α)} (h : EsL f es L) {j : Nat} {e : MapEntry} (he : es[j]? = some e) : ∃ p, L[j]? = some p ∧ e.key = .int .i64 p.1 ∧ e.val = f p.2 := by
  have := congrArg (fun l => l[j]?) h
  simp only [List.getElem?_map, he, Option.map_some] at this
  cases hl : L[j]? with
  | none => rw [hl] at this; cases this
  | some p =>
    rw [hl] at this
    simp only [Option.map_some, Option.some.injEq, Prod.mk.injEq] at this
    exact ⟨p, rfl, this.1, this.2⟩
theorem EsL.mem {es : List MapEntry} {L : List (Int × α)} (h : EsL f es L) {p : Int × α} (hp : p ∈ L) : ∃ e ∈ es, e.key = .int .i64 p.1 := by
  have : (Value.int .i64 p.1, f p.2) ∈ es.map (fun e => (e.key, e.val)) := by rw [h]; exact List.mem_map.2 ⟨p, hp, rfl⟩
  obtain ⟨e, he, hq⟩ := List.mem_map.1 this
  simp only [Prod.mk.injEq] at hq
  exact ⟨e, he, hq.1⟩
theorem EsL.keys {es : List MapEntry} {L : List (Int × α)} (h : EsL f es L) : ∀ x ∈ es, MapKept.IsKey (.int .i64) x.key := by
  intro x hx
  obtain ⟨j, hj⟩ := List.mem_iff_getElem?.1 hx
  obtain ⟨p, _, hk, _⟩ := h.at hj
  rw [hk]; rfl

/-- A map: what it holds at each key, and how many keys it has. -/
def MapO (b : Nat) (f : α → Value) : Ob ((Int → Option α) × Nat) := fun w F x => (∀ i, F i ↔ i = b) ∧ ∃ es clock L, w.heap[b]? = some (.map es clock) ∧ EsL f es.toList L ∧ (L.map Prod.fst).Nodup ∧ (∀ k v, x.1 k = some v ↔ (k, v) ∈ L) ∧ x.2 = L.length
instance Frame.map (b : Nat) (f : α → Value) : Frame (MapO b f) where
  upd := by
    rintro w w' F G s ⟨h1, es, clock, L, h2, r⟩ k hG
    exact ⟨h1, es, clock, L, (k.blk b (lt_of_blk h2) (hG b ((h1 b).2 rfl))).trans h2, r⟩
  lt := by
    rintro w F s ⟨h1, es, clock, L, h2, r⟩ i hi
    rw [(h1 i).1 hi]; exact lt_of_blk h2

theorem MapO.new {w w' : World} (h : Newed w w' (.map #[] 0)) : MapO w.heap.size f w' (fun i => i = w.heap.size) (fun _ => none, 0) :=
  ⟨fun _ => Iff.rfl, #[], 0, [], h.blk, rfl, List.nodup_nil, fun k v => by simp, rfl⟩

def mput (x : (Int → Option α) × Nat) (k : Int) (v : α) : (Int → Option α) × Nat := (fun j => if j = k then some v else x.1 j, if (x.1 k).isSome then x.2 else x.2 + 1)
def mdel (x : (Int → Option α) × Nat) (k : Int) : (Int → Option α) × Nat := (fun j => if j = k then none else x.1 j, if (x.1 k).isSome then x.2 - 1 else x.2)

variable {P : Program} {t k e : TypeId} {z : Value} {b : Nat} {w : World} {F : Fp} {x : (Int → Option α) × Nat}

theorem map_erase {β γ : Type} (g : β → γ) : ∀ (l : List β) (j : Nat), (l.eraseIdx j).map g = (l.map g).eraseIdx j
  | [], _ => rfl
  | _ :: _, 0 => rfl
  | a :: l, j + 1 => by simp [map_erase g l j]
theorem nodup_at {L : List (Int × α)} (h : (L.map Prod.fst).Nodup) {i j : Nat} {p q : Int × α} (hi : L[i]? = some p) (hj : L[j]? = some q) (he : p.1 = q.1) : i = j := by
  have h1 : (L.map Prod.fst)[i]? = some p.1 := by simp [hi]
  have h2 : (L.map Prod.fst)[j]? = some p.1 := by simp [hj, he]
  exact (List.getElem?_inj (List.getElem?_eq_some_iff.1 h1).1 h).1 (h1.trans h2.symm)

/-- Where a key is. -/
theorem find_spec {es : List MapEntry} {L : List (Int × α)} (h : EsL f es L) (hn : (L.map Prod.fst).Nodup) (hx : ∀ k v, x.1 k = some v ↔ (k, v) ∈ L) (n : Int) :
    (x.1 n = none ∧ Instr.findNow (.int .i64) (.int .i64 n) es 0 = some none) ∨ ∃ j v e, x.1 n = some v ∧ Instr.findNow (.int .i64) (.int .i64 n) es 0 = some (some (j, f v)) ∧ es[j]? = some e ∧ e.key = .int .i64 n ∧ L[j]? = some (n, v) := by
  rcases MapKept.findNow_spec (d := .int .i64) (k := .int .i64 n) rfl es 0 h.keys with ⟨h1, h2⟩ | ⟨j, e, h1, h2, h3⟩
  · refine .inl ⟨?_, h1⟩
    cases hv : x.1 n with
    | none => rfl
    | some v =>
      obtain ⟨e, he, hk⟩ := h.mem ((hx n v).1 hv)
      exact absurd hk (h2 e he)
  · obtain ⟨p, hp, hk, hv⟩ := h.at h2
    obtain ⟨pn, pv⟩ := p
    have : pn = n := by rw [h3] at hk; simpa using hk.symm
    subst this
    simp only at hv
    exact .inr ⟨j, pv, e, (hx pn pv).2 (List.mem_iff_getElem?.2 ⟨j, hp⟩), by rw [h1, hv]; simp, h2, h3, hp⟩

theorem run_lookup (hT : MapT P t k e z) (h : MapO b f w F x) (n : Int) (ok : Bool) :
    (Instr.lookup t (.map (some b)) (.int .i64 n) ok).run P w = .ok (if ok then .tuple #[((x.1 n).map f).getD z, .bool (x.1 n).isSome] else ((x.1 n).map f).getD z) w := by
  obtain ⟨h1, es, clock, L, hb, hE, hn, hx, hl⟩ := h
  have hk : MapKept.IsKey (.int .i64) (.int .i64 n) := rfl
  rcases find_spec hE hn hx n with ⟨k1, k2⟩ | ⟨j, v, e', k1, k2, k3, k4, k5⟩
  · have hz : (zeroValue e).run P w = .ok z w := by rw [run_zeroValue_ok hT.ok, hT.zero]
    simp [Instr.lookup, run_underlying_ok hT.under, MapKept.run_getObj_map hb, MapKept.run_checkKey hT.key hk, MapKept.run_findKey hT.key k2, k1, hz, Result.andThen]
  · simp [Instr.lookup, run_underlying_ok hT.under, MapKept.run_getObj_map hb, MapKept.run_checkKey hT.key hk, MapKept.run_findKey hT.key k2, k1, Result.andThen]

theorem wrote_map {o o' : Obj} (hb : w.heap[b]? = some o) : Upd (fun i => i = b) w { w with heap := w.heap.setIfInBounds b o' } :=
  ⟨by simp, rfl, rfl, rfl, fun i _ hi => by simp [Ne.symm hi]⟩

theorem run_put (hT : MapT P t k e z) (h : MapO b f w F x) (n : Int) (v : α) :
    ∃ w', (Instr.mapUpdate t (.map (some b)) (.int .i64 n) (f v)).run P w = .ok () w' ∧ Turn (MapO b f) w w' F (mput x n v) := by
  obtain ⟨h1, es, clock, L, hb, hE, hn, hx, hl⟩ := h
  have hk : MapKept.IsKey (.int .i64) (.int .i64 n) := rfl
  rcases find_spec hE hn hx n with ⟨k1, k2⟩ | ⟨j, v0, e', k1, k2, k3, k4, k5⟩
  · refine ⟨_, by simp [Instr.mapUpdate, run_underlying_ok hT.under, MapKept.run_getObj_map hb, MapKept.run_checkKey hT.key hk, MapKept.run_findKey hT.key k2, MapKept.run_setObj_map _ hb, Result.andThen]; rfl,
      F, ⟨h1, _, _, L ++ [(n, v)], (MapKept.heap_set hb).1, ?_, ?_, ?_, ?_⟩, (wrote_map hb).mono (fun i _ hi => (h1 i).2 hi), fun _ hi => .inl hi⟩
    · unfold EsL at hE ⊢
      simp [hE]
    · rw [List.map_append, List.nodup_append]
      refine ⟨hn, by simp, fun a ha c hc => ?_⟩
      simp at hc
      subst hc
      rintro rfl
      obtain ⟨p, hp, rfl⟩ := List.mem_map.1 ha
      have := (hx p.1 p.2).2 hp
      rw [k1] at this; cases this
    · intro a c
      simp only [mput, List.mem_append, List.mem_singleton, Prod.mk.injEq]
      by_cases ha : a = n
      · subst ha
        have : (a, c) ∉ L := fun hm => by have := (hx a c).2 hm; rw [k1] at this; cases this
        simp [this, eq_comm]
      · simp [ha, hx]
    · simp [mput, k1, hl]
  · have hj : es[j]? = some e' := by simpa using k3
    refine ⟨_, by simp [Instr.mapUpdate, run_underlying_ok hT.under, MapKept.run_getObj_map hb, MapKept.run_checkKey hT.key hk, MapKept.run_findKey hT.key k2, hj, k4, MapKept.run_keyThatStays hk, MapKept.run_setObj_map _ hb, Result.andThen]; rfl,
      F, ⟨h1, _, _, L.set j (n, v), (MapKept.heap_set hb).1, ?_, ?_, ?_, ?_⟩, (wrote_map hb).mono (fun i _ hi => (h1 i).2 hi), fun _ hi => .inl hi⟩
    · unfold EsL at hE ⊢
      rw [Array.toList_modify, List.map_set, ← hE]
      apply List.ext_getElem?
      intro i
      rw [List.getElem?_map, List.getElem?_modify, List.getElem?_set, List.getElem?_map]
      by_cases hij : j = i
      · subst hij
        have hlt : j < es.toList.length := (List.getElem?_eq_some_iff.1 k3).1
        simp [k3]
        simpa using hlt
      · simp only [hij, if_false]
        cases es.toList[i]? <;> simp
    · rw [List.map_set]
      have : (L.map Prod.fst).set j (n, v).1 = L.map Prod.fst := by
        apply List.ext_getElem?
        intro i
        rw [List.getElem?_set]
        by_cases hij : j = i
        · subst hij
          have hlt : j < L.length := (List.getElem?_eq_some_iff.1 k5).1
          have := (List.getElem?_eq_some_iff.1 k5).2
          simp [hlt, this]
        · simp [hij]
      rw [this]; exact hn
    · intro a c
      simp only [mput]
      rw [List.mem_iff_getElem?]
      by_cases ha : a = n
      · subst ha
        simp only [if_true, Option.some.injEq]
        constructor
        · rintro rfl
          exact ⟨j, by rw [List.getElem?_set]; simp [(List.getElem?_eq_some_iff.1 k5).1]⟩
        · rintro ⟨i, hi⟩
          rw [List.getElem?_set] at hi
          by_cases hij : j = i
          · subst hij
            simp [(List.getElem?_eq_some_iff.1 k5).1] at hi
            exact hi
          · rw [if_neg hij] at hi
            exact absurd (nodup_at hn k5 hi rfl) hij
      · rw [if_neg ha, hx, List.mem_iff_getElem?]
        constructor
        · rintro ⟨i, hi⟩
          refine ⟨i, ?_⟩
          rw [List.getElem?_set, if_neg (fun hij => by subst hij; rw [k5] at hi; simp at hi; exact ha hi.1.symm)]
          exact hi
        · rintro ⟨i, hi⟩
          rw [List.getElem?_set] at hi
          by_cases hij : j = i
          · subst hij
            simp [(List.getElem?_eq_some_iff.1 k5).1] at hi
            exact absurd hi.1.symm ha
          · rw [if_neg hij] at hi
            exact ⟨i, hi⟩
    · simp [mput, k1, hl]

theorem run_del (hT : MapT P t k e z) (h : MapO b f w F x) (n : Int) (k2 ty : TypeId) :
    ∃ w', (Builtin.delete_ #[t, k2] ty #[.map (some b), .int .i64 n]).run P w = .ok (.tuple #[]) w' ∧ Turn (MapO b f) w w' F (mdel x n) := by
  obtain ⟨h1, es, clock, L, hb, hE, hn, hx, hl⟩ := h
  have hk : MapKept.IsKey (.int .i64) (.int .i64 n) := rfl
  rcases find_spec hE hn hx n with ⟨k1, k2⟩ | ⟨j, v0, e', k1, k2, k3, k4, k5⟩
  · refine ⟨_, by simp [Builtin.delete_, run_underlying_ok hT.under, MapKept.run_getObj_map hb, MapKept.run_checkKey hT.key hk, MapKept.run_findKey hT.key k2, MapKept.run_setObj_map _ hb, Result.andThen]; rfl,
      F, ⟨h1, _, _, L, (MapKept.heap_set hb).1, hE, hn, ?_, ?_⟩, (wrote_map hb).mono (fun i _ hi => (h1 i).2 hi), fun _ hi => .inl hi⟩
    · intro a c
      simp only [mdel]
      by_cases ha : a = n
      · subst ha
        have : (a, c) ∉ L := fun hm => by have := (hx a c).2 hm; rw [k1] at this; cases this
        simp [this]
      · simp [ha, hx]
    · simp [mdel, k1, hl]
  · refine ⟨_, by simp [Builtin.delete_, run_underlying_ok hT.under, MapKept.run_getObj_map hb, MapKept.run_checkKey hT.key hk, MapKept.run_findKey hT.key k2, MapKept.run_setObj_map _ hb, Result.andThen]; rfl,
      F, ⟨h1, _, _, L.eraseIdx j, (MapKept.heap_set hb).1, ?_, ?_, ?_, ?_⟩, (wrote_map hb).mono (fun i _ hi => (h1 i).2 hi), fun _ hi => .inl hi⟩
    · unfold EsL at hE ⊢
      rw [map_erase, ← hE, ← map_erase]
      congr 1
      simp [Array.eraseIdxIfInBounds]
      split
      · simp
      · rename_i hlt
        have := (List.getElem?_eq_some_iff.1 k3).1
        simp at this
        omega
    · rw [map_erase]
      exact hn.eraseIdx _
    · intro a c
      simp only [mdel]
      rw [List.mem_eraseIdx_iff_getElem?]
      by_cases ha : a = n
      · subst ha
        simp only [if_true]
        constructor
        · intro h; cases h
        · rintro ⟨i, hij, hi⟩
          exact absurd (nodup_at hn hi k5 rfl) hij
      · rw [if_neg ha, hx, List.mem_iff_getElem?]
        constructor
        · rintro ⟨i, hi⟩
          exact ⟨i, fun hij => by subst hij; rw [k5] at hi; simp at hi; exact ha hi.1.symm, hi⟩
        · rintro ⟨i, _, hi⟩; exact ⟨i, hi⟩
    · have := (List.getElem?_eq_some_iff.1 k5).1
      simp [mdel, k1, hl, List.length_eraseIdx, this]

theorem run_mlen (hT : MapT P t k e z) (h : MapO b f w F x) (ty : TypeId) : (Builtin.len_ #[t] ty #[.map (some b)]).run P w = .ok (.int .i64 (x.2 : Int)) w := by
  obtain ⟨h1, es, clock, L, hb, hE, hn, hx, hl⟩ := h
  have := hE.len
  simp at this
  simp [Builtin.len_, run_underlying_ok hT.under, MapKept.run_getObj_map hb, goInt, Result.andThen, hl, this]
end
end Go.Dav
