/- Plain words on memory: what has turned between two worlds; a slice that is owned; a struct's block. -/
import Derived.Test.YtfmehojcgdfghaaDoorDen
import Derived.ArgAppend
import Derived.DataElems
set_option linter.unusedSimpArgs false
set_option linter.unusedVariables false
namespace Go.Dav

/-- Between w and w' nothing has turned but blocks of F, and new ones. -/
structure Upd (F : Nat → Prop) (w w' : World) : Prop where
  size : w.heap.size ≤ w'.heap.size
  os : w'.os = w.os
  tape : w'.tape = w.tape
  output : w'.output = w.output
  blk : ∀ i, i < w.heap.size → ¬ F i → w'.heap[i]? = w.heap[i]?

def no : Nat → Prop := fun _ => False

theorem Upd.refl (F : Nat → Prop) (w : World) : Upd F w w := ⟨Nat.le_refl _, rfl, rfl, rfl, fun _ _ _ => rfl⟩
theorem Upd.trans {F G : Nat → Prop} {w w1 w2 : World} (h : Upd F w w1) (k : Upd G w1 w2) (hG : ∀ i, i < w.heap.size → G i → F i) : Upd F w w2 :=
  ⟨Nat.le_trans h.size k.size, k.os.trans h.os, k.tape.trans h.tape, k.output.trans h.output,
    fun i hi hF => (k.blk i (Nat.lt_of_lt_of_le hi h.size) (fun hg => hF (hG i hi hg))).trans (h.blk i hi hF)⟩
theorem Upd.mono {F G : Nat → Prop} {w w' : World} (h : Upd F w w') (hG : ∀ i, i < w.heap.size → F i → G i) : Upd G w w' := (Upd.refl G w).trans h hG
theorem Upd.same {w w' : World} (F : Nat → Prop) (h1 : w'.heap = w.heap) (h2 : w'.os = w.os) (h3 : w'.tape = w.tape) (h4 : w'.output = w.output) : Upd F w w' :=
  ⟨by rw [h1]; exact Nat.le_refl _, h2, h3, h4, fun _ _ _ => by rw [h1]⟩
theorem Wrote.upd {F : Nat → Prop} {w w' : World} {b : Nat} {c : List Value} {T : TypeId} (h : Wrote w w' b c T) (hb : F b) : Upd F w w' :=
  ⟨Nat.le_of_eq h.size.symm, h.os, h.tape, h.output, fun i _ hF => h.other i (fun e => hF (e ▸ hb))⟩
theorem Newed.upd {w w' : World} {o : Obj} (h : Newed w w' o) (F : Nat → Prop) : Upd F w w' :=
  ⟨by rw [h.size]; omega, h.os, h.tape, h.output, fun i hi _ => h.old i hi⟩

theorem lt_of_blk {w : World} {b : Nat} {o : Obj} (h : w.heap[b]? = some o) : b < w.heap.size := (Array.getElem?_eq_some_iff.1 h).1

/-- The block b is a row of these cells. -/
def Blk (w : World) (b : Nat) (c : List Value) (T : TypeId) : Prop := w.heap[b]? = some (.cells c.toArray T (0, 0))

theorem Blk.lt {w : World} {b : Nat} {c : List Value} {T : TypeId} (h : Blk w b c T) : b < w.heap.size := lt_of_blk h
theorem Blk.upd {w w' : World} {b : Nat} {c : List Value} {T : TypeId} {F : Nat → Prop} (h : Blk w b c T) (k : Upd F w w') (hF : ¬ F b) : Blk w' b c T :=
  (k.blk b h.lt hF).trans h

theorem cell_blk {w : World} {b : Nat} {c : List Value} {T : TypeId} (h : Blk w b c T) (o : Nat) : w.cell? ⟨b, o, none⟩ = c[o]? := by
  unfold Blk at h
  simp [World.cell?, h]

theorem add_lit (b o k : Nat) : (⟨b, o, none⟩ : Addr).add k = ⟨b, o + k, none⟩ := by
  unfold Addr.add
  split
  · simp_all
  · rfl

theorem Blk.cell {w : World} {b : Nat} {c : List Value} {T : TypeId} (h : Blk w b c T) {k : Nat} {v : Value} (hv : c[k]? = some v) : w.cell? ((⟨b, 0, none⟩ : Addr).add k) = some v := by
  rw [add_lit, cell_blk h, Nat.zero_add]
  exact hv
theorem Blk.cell0 {w : World} {b : Nat} {c : List Value} {T : TypeId} (h : Blk w b c T) {v : Value} (hv : c[0]? = some v) : w.cell? ⟨b, 0, none⟩ = some v := by
  rw [cell_blk h]
  exact hv

theorem Blk.wr {w : World} {b : Nat} {c : List Value} {T : TypeId} (h : Blk w b c T) {k : Nat} {vs : List Value} (hk : k + vs.length ≤ c.length) {K : World → Prop}
    (hK : ∀ w', Wrote w w' b (setL c k vs) T → K w') : Wr w ((⟨b, 0, none⟩ : Addr).add k) vs K := by
  rw [add_lit, Nat.zero_add]
  exact ⟨⟨c, T, h, rfl, hk, hK⟩⟩
theorem Blk.wr0 {w : World} {b : Nat} {c : List Value} {T : TypeId} (h : Blk w b c T) {vs : List Value} (hk : vs.length ≤ c.length) {K : World → Prop}
    (hK : ∀ w', Wrote w w' b (setL c 0 vs) T → K w') : Wr w ⟨b, 0, none⟩ vs K :=
  ⟨⟨c, T, h, rfl, by simpa using hk, hK⟩⟩

theorem Wrote.blk' {w w' : World} {b : Nat} {c : List Value} {T : TypeId} (h : Wrote w w' b c T) : Blk w' b c T := h.blk
theorem Wrote.keep {w w' : World} {b i : Nat} {c c' : List Value} {T T' : TypeId} (h : Wrote w w' b c T) (k : Blk w i c' T') (hi : i ≠ b) : Blk w' i c' T' := (h.other i hi).trans k
theorem Newed.blk' {w w' : World} {c : List Value} {T : TypeId} (h : Newed w w' (.cells c.toArray T (0, 0))) : Blk w' w.heap.size c T := h.blk
theorem Newed.keep {w w' : World} {o : Obj} {i : Nat} {c' : List Value} {T' : TypeId} (h : Newed w w' o) (k : Blk w i c' T') : Blk w' i c' T' := (h.old i k.lt).trans k

/-! ### Slices -/

/-- What a slice's cells hold, to be read. -/
def Cells (w : World) (p : Option Addr) (cs : List Value) : Prop := ∀ j v, cs[j]? = some v → ∃ a, p = some a ∧ w.cell? (a.add j) = some v

theorem Cells.nil (w : World) (p : Option Addr) : Cells w p [] := fun j v h => by simp at h

/-- A slice of n elements, sz cells each, over a block that is its owner's alone. -/
def Sl (w : World) (T : TypeId) (sz : Nat) (p : Option Addr) (n c : Nat) (cs : List Value) : Prop :=
  cs.length = n * sz ∧ n ≤ c ∧ c ≤ maxLen ∧ match p with
    | none => n = 0 ∧ c = 0
    | some a => ∃ cells : List Value, Blk w a.block cells T ∧ a.spot = none ∧ a.off + c * sz ≤ cells.length ∧ (cells.drop a.off).take (n * sz) = cs

def fpS (p : Option Addr) : Nat → Prop := fun i => ∃ a, p = some a ∧ i = a.block

section
variable {w w' : World} {T : TypeId} {sz : Nat} {p : Option Addr} {n c : Nat} {cs : List Value}

theorem Sl.lt (h : Sl w T sz p n c cs) : ∀ i, fpS p i → i < w.heap.size := by
  rintro i ⟨a, rfl, rfl⟩
  obtain ⟨_, _, _, cells, hb, _⟩ := h
  exact hb.lt

theorem Sl.len (h : Sl w T sz p n c cs) : cs.length = n * sz := h.1

theorem Sl.nil (w : World) (T : TypeId) (sz : Nat) : Sl w T sz none 0 0 [] := ⟨by simp, Nat.le_refl _, Nat.zero_le _, rfl, rfl⟩

theorem Sl.upd {F : Nat → Prop} (h : Sl w T sz p n c cs) (k : Upd F w w') (hF : ∀ i, fpS p i → ¬ F i) : Sl w' T sz p n c cs := by
  obtain ⟨h1, h2, h3, h4⟩ := h
  refine ⟨h1, h2, h3, ?_⟩
  cases p with
  | none => exact h4
  | some a =>
    obtain ⟨cells, hb, r⟩ := h4
    exact ⟨cells, hb.upd k (hF _ ⟨a, rfl, rfl⟩), r⟩

theorem Sl.cells (h : Sl w T sz p n c cs) : Cells w p cs := by
  intro j v hj
  obtain ⟨h1, h2, h3, h4⟩ := h
  have hlt : j < n * sz := by rw [← h1]; exact (List.getElem?_eq_some_iff.1 hj).1
  cases p with
  | none => obtain ⟨rfl, _⟩ := h4; simp at hlt
  | some a =>
    obtain ⟨cells, hb, hs, hl, ht⟩ := h4
    obtain ⟨b, o, sp⟩ := a
    simp only at hs hb hl ht
    subst hs
    refine ⟨_, rfl, ?_⟩
    rw [add_lit, cell_blk hb]
    rw [← ht, List.getElem?_take, if_pos hlt, List.getElem?_drop] at hj
    exact hj

theorem Sl.new {cs : List Value} (h : Newed w w' (.cells cs.toArray T (0, 0))) (hl : cs.length = n * sz) (hm : n ≤ maxLen) : Sl w' T sz (some ⟨w.heap.size, 0, none⟩) n n cs :=
  ⟨hl, Nat.le_refl _, hm, cs, h.blk, rfl, by simp [hl], by simp [← hl]⟩

theorem Sl.dropN (h : Sl w T sz p n c cs) (k : Nat) (hk : k ≤ n) : Sl w T sz (subA p c k sz) (n - k) (c - k) (cs.drop (k * sz)) := by
  obtain ⟨h1, h2, h3, h4⟩ := h
  refine ⟨by rw [List.length_drop, h1, Nat.sub_mul], by omega, by omega, ?_⟩
  unfold subA
  cases p with
  | none =>
    obtain ⟨rfl, rfl⟩ := h4
    have : (if 0 = k then (none : Option Addr) else Option.map (fun (x : Addr) => x.add (k * sz)) none) = none := by split <;> rfl
    rw [this]
    exact ⟨by omega, by omega⟩
  | some a =>
    obtain ⟨cells, hb, hs, hl, ht⟩ := h4
    by_cases hc : c = k
    · rw [if_pos hc]
      have : n = c := by omega
      subst this
      subst hc
      refine ⟨cells, hb, hs, ?_, ?_⟩
      · simp; have := hl; omega
      · simp [← h1]
    · rw [if_neg hc]
      obtain ⟨b, o, sp⟩ := a
      simp only at hs hb hl ht
      subst hs
      simp only [Option.map_some, add_lit]
      refine ⟨cells, hb, trivial, ?_, ?_⟩
      · rw [Nat.sub_mul]
        have : k * sz ≤ c * sz := Nat.mul_le_mul_right _ (by omega)
        omega
      · rw [← ht, List.drop_take, List.drop_drop, Nat.sub_mul]

theorem subA_zero (p : Option Addr) (m sz : Nat) : subA p m 0 sz = p := by
  unfold subA
  split
  · rfl
  · cases p with
    | none => rfl
    | some a => simp [Addr.add]

theorem Sl.takeN (h : Sl w T sz p n c cs) (k : Nat) (hk : k ≤ n) : Sl w T sz p k c (cs.take (k * sz)) := by
  obtain ⟨h1, h2, h3, h4⟩ := h
  have hkn : k * sz ≤ n * sz := Nat.mul_le_mul_right _ hk
  refine ⟨by rw [List.length_take, h1]; omega, by omega, h3, ?_⟩
  cases p with
  | none => obtain ⟨rfl, rfl⟩ := h4; simp; omega
  | some a =>
    obtain ⟨cells, hb, hs, hl, ht⟩ := h4
    refine ⟨cells, hb, hs, hl, ?_⟩
    rw [← ht, List.take_take, Nat.min_eq_left hkn]

theorem fpS_sub {p : Option Addr} {m l sz : Nat} : ∀ i, fpS (subA p m l sz) i → fpS p i := by
  rintro i ⟨a, ha, rfl⟩
  unfold subA at ha
  split at ha
  · exact ⟨a, ha, rfl⟩
  · cases p with
    | none => simp at ha
    | some b =>
      simp only [Option.map_some, Option.some.injEq] at ha
      subst ha
      refine ⟨b, rfl, ?_⟩
      unfold Addr.add
      split <;> rfl
end

/-! ### append -/

/-- What the element type's row of the table tells. -/
structure ElemT (P : Program) (t e : TypeId) (sz bytes : Nat) (z : List Value) : Prop where
  under : P.underlying t = some (.slice e)
  info : (P.info? e).map (fun i => (i.zero.map (·.cells.toList), i.size, i.bytes)) = some (some z, sz, bytes)
  zs : z.length = sz
  pos : 0 < sz

theorem zeroCells_len (z : Array Value) (n : Nat) : (Builtin.zeroCells z n).size = n * z.size := by simp [Builtin.zeroCells]

theorem run_appendQ {P : Program} {t e : TypeId} {sz bytes : Nat} {z : List Value} (ht : ElemT P t e sz bytes z) {w : World} {p : Option Addr} {n c : Nat} {cs : List Value} (h : Sl w e sz p n c cs)
    {q : Option Addr} {m d : Nat} {news : List Value} (hq : Cells w q news) (hl : news.length = m * sz) (h1 : ∀ u ∈ news, u.oneCell' = true) (hb : (n + m) * bytes ≤ 140737488355328) (hn : n + m ≤ 140737488355328) (ty : TypeId) :
    ∃ p' n' c' w', (Builtin.append_ #[t, t] ty #[.slice p n c, .slice q m d]).run P w = .ok (.slice p' n' c') w' ∧ n' = n + m ∧ Sl w' e sz p' (n + m) c' (cs ++ news) ∧ Upd (fpS p) w w' ∧
      (∀ i, fpS p' i → fpS p i ∨ w.heap.size ≤ i) := by
  obtain ⟨hu, hinfo, hzs, hpos⟩ := ht
  obtain ⟨i, hi, hii⟩ := Option.map_eq_some_iff.1 hinfo
  simp only [Prod.mk.injEq] at hii
  obtain ⟨hz, hs1, hb1⟩ := hii
  obtain ⟨zv, hzv, hzc⟩ := Option.map_eq_some_iff.1 hz
  subst hs1
  subst hb1
  have hmax : n + m ≤ maxLen := by unfold maxLen; omega
  obtain ⟨l1, l2, l3, l4⟩ := id h
  have hlen : (cs ++ news).length = (n + m) * i.size := by rw [List.length_append, l1, hl, Nat.add_mul]
  by_cases hm : m = 0
  · -- nothing is appended
    subst hm
    have hnews : news = [] := List.eq_nil_of_length_eq_zero (by simpa using hl)
    subst hnews
    refine ⟨p, n, c, w, ?_, rfl, by simpa using h, Upd.refl _ _, fun i hi => .inl hi⟩
    have hf : (Builtin.firstCells i.size 0 (.slice q 0 d)).run P w = .ok #[] w := by
      cases q with
      | none => simp [Builtin.firstCells]
      | some a => simp [Builtin.firstCells, loadCells, loadCellsFrom]
    have hroom : n ≤ c := l2
    cases p with
    | none =>
      obtain ⟨rfl, rfl⟩ := l4
      simp [Builtin.append_, run_underlying hu, sizeOf, typeInfo, hi, Builtin.lenOf, hf]
    | some a => simp [Builtin.append_, run_underlying hu, sizeOf, typeInfo, hi, Builtin.lenOf, hroom, hf, storeCells]
  · obtain ⟨aq, rfl⟩ : ∃ a, q = some a := by
      have h0 : 0 < news.length := by rw [hl]; exact Nat.mul_pos (by omega) hpos
      obtain ⟨a, ha, _⟩ := hq 0 news[0] (by simp [h0])
      exact ⟨a, ha⟩
    have hc' : ∀ j u, news[j]? = some u → w.cell? (aq.add j) = some u := by
      intro j u hj
      obtain ⟨a, ha, hc⟩ := hq j u hj
      obtain rfl := Option.some.inj ha
      exact hc
    have grown : ∀ cap, n + m ≤ cap → cap ≤ maxLen → Sl (w.drew.alloc (.cells (cs.toArray ++ news.toArray ++ Builtin.zeroCells zv.cells (cap - (n + m))) e)) e i.size (some ⟨w.heap.size, 0, none⟩) (n + m) cap (cs ++ news) := by
      intro cap hcap hcm
      refine ⟨hlen, hcap, hcm, cs ++ news ++ (Builtin.zeroCells zv.cells (cap - (n + m))).toList, ?_, rfl, ?_, ?_⟩
      · have e0 : (cs ++ news ++ (Builtin.zeroCells zv.cells (cap - (n + m))).toList).toArray = cs.toArray ++ news.toArray ++ Builtin.zeroCells zv.cells (cap - (n + m)) := by simp
        unfold Blk
        rw [e0]
        exact Array.getElem?_push_size
      · have : zv.cells.size = i.size := by rw [← hzs, ← hzc]; simp
        simp only [List.length_append, Array.length_toList, zeroCells_len, this, l1, hl, Nat.zero_add]
        rw [← Nat.add_mul, ← Nat.add_mul]
        refine Nat.le_of_eq ?_
        congr 1
        omega
      · simp only [List.drop_zero]
        rw [← hlen, List.take_left]
    have updn : ∀ o, Upd (fpS p) w (w.drew.alloc o) := fun o => ⟨by simp, rfl, rfl, rfl, fun k hk _ => heap_alloc_old w.drew o k hk⟩
    by_cases hr : n + m ≤ c
    · -- there is room
      cases p with
      | none => obtain ⟨rfl, rfl⟩ := l4; omega
      | some a =>
        obtain ⟨cells, hbk, hsp, hfit, htk⟩ := l4
        obtain ⟨b, o, sp⟩ := a
        simp only at hsp hbk hfit htk
        subst hsp
        have hfc := run_firstCells_some (P := P) w i.size m aq m d news hl hc'
        have hfit' : o + n * i.size + 0 + news.length ≤ cells.toArray.size := by
          rw [hl]; simp only [List.size_toArray]
          have : (n + m) * i.size ≤ c * i.size := Nat.mul_le_mul_right _ hr
          rw [Nat.add_mul] at this
          omega
        have hst := run_storeCells_at P b (o + n * i.size) e news 0 cells.toArray w hbk hfit' h1
        simp only [Nat.add_zero] at hst
        have hW := wrote_setRow (w := w) (b := b) (c := cells.toArray) (T := e) hbk (setL cells (o + n * i.size) news)
        refine ⟨some ⟨b, o, none⟩, n + m, c, _, ?_, rfl, ?_, hW.upd ⟨_, rfl, rfl⟩, fun i hi => .inl hi⟩
        · simp [Builtin.append_, run_underlying hu, sizeOf, typeInfo, hi, Builtin.lenOf, hr, hfc, Addr.add_lit, hst, setL]
        · refine ⟨hlen, hr, l3, _, hW.blk, rfl, ?_, ?_⟩
          · rw [setL_length (by simpa using hfit')]; exact hfit
          · have hol : o + n * i.size ≤ cells.length := by
              have : n * i.size ≤ c * i.size := Nat.mul_le_mul_right _ l2
              omega
            unfold setL
            rw [List.append_assoc, List.drop_append, List.drop_take]
            have e1 : o - (cells.take (o + n * i.size)).length = 0 := by rw [List.length_take]; omega
            rw [e1, List.drop_zero, show o + n * i.size - o = n * i.size by omega, htk, List.take_append, l1]
            rw [List.take_of_length_le (by rw [l1, Nat.add_mul]; omega)]
            congr 1
            rw [Nat.add_mul, Nat.add_sub_cancel_left, ← hl, List.take_left]
    · -- a new array
      have hg := grownCap_ge w (n + m) c e
      have hgm := grownCap_le_maxLen w (n + m) c e hmax
      cases p with
      | none =>
        obtain ⟨rfl, rfl⟩ := l4
        have hcs : cs = [] := List.eq_nil_of_length_eq_zero (by simpa using l1)
        subst hcs
        have hrun := run_append_nil (P := P) w t ty e i zv hu hi hzv aq m d news hl hc' (by omega) (by omega) (by simp only [Nat.zero_add] at hb; omega)
        simp only [Nat.zero_add] at hg hgm hmax
        refine ⟨_, _, _, _, hrun, by simp, ?_, updn _, fun i hi => ?_⟩
        · have := grown (grownCap w m 0 e) (by omega) hgm
          simpa using this
        · obtain ⟨a, ha, rfl⟩ := hi
          simp only [Option.some.injEq] at ha
          subst ha
          exact .inr (Nat.le_refl _)
      | some a =>
        have hcells := h.cells
        have holds : ∀ j u, cs[j]? = some u → w.cell? (a.add j) = some u := by
          intro j u hj
          obtain ⟨a', ha, hc⟩ := hcells j u hj
          obtain rfl := Option.some.inj ha
          exact hc
        have hrun := run_append_grow (P := P) w t ty e i zv hu hi hzv a n c cs l1 holds aq m d news hl hc' (by omega) (by omega) (growslice_fits (by omega) hb)
        refine ⟨_, _, _, _, hrun, rfl, grown _ hg hgm, updn _, fun i hi => ?_⟩
        obtain ⟨a, ha, rfl⟩ := hi
        simp only [Option.some.injEq] at ha
        subst ha
        exact .inr (Nat.le_refl _)
theorem run_append {P : Program} {t e : TypeId} {sz bytes : Nat} {z : List Value} (ht : ElemT P t e sz bytes z) {w : World} {p : Option Addr} {n c : Nat} {cs : List Value} (h : Sl w e sz p n c cs)
    {q : Option Addr} {m d : Nat} {news : List Value} (hq : Cells w q news) (hl : news.length = m * sz) (h1 : ∀ u ∈ news, u.oneCell' = true) (hqn : q = none → d = 0) (hb : (n + m) * bytes ≤ 140737488355328) (hn : n + m ≤ 140737488355328) (ty : TypeId) :
    ∃ p' n' c' w', (Builtin.append_ #[t, t] ty #[.slice p n c, .slice q m d]).run P w = .ok (.slice p' n' c') w' ∧ n' = n + m ∧ Sl w' e sz p' (n + m) c' (cs ++ news) ∧ Upd (fpS p) w w' ∧
      (∀ i, fpS p' i → fpS p i ∨ w.heap.size ≤ i) := run_appendQ ht h hq hl h1 hb hn ty

theorem w64 {x : Int} (h : -9223372036854775808 ≤ x ∧ x ≤ 9223372036854775807) : IntKind.wrap .i64 x = x := by
  unfold IntKind.wrap
  simp only [IntKind.bits, IntKind.signed, Bool.true_and]
  split <;> simp_all <;> omega

theorem get_map {α : Type} {f : α → Value} {l : List α} {i : Nat} (h : i < l.length) : (l.map f)[i]? = some (f l[i]) := by simp [h]

theorem Cells.at1 {w : World} {p : Option Addr} {α : Type} {f : α → Value} {l : List α} (h : Cells w p (l.map f)) {i : Nat} (hi : i < l.length) : ∃ a, p = some a ∧ w.cell? (a.add (i * 1)) = some (f l[i]) := by
  rw [Nat.mul_one]
  exact h i _ (get_map hi)

theorem Cells.upd {w w' : World} {p : Option Addr} {cs : List Value} (h : Cells w p cs) (k : ∀ a, p = some a → w'.heap[a.block]? = w.heap[a.block]?) : Cells w' p cs := by
  intro j v hj
  obtain ⟨a, ha, hc⟩ := h j v hj
  refine ⟨a, ha, ?_⟩
  rw [← hc]
  have hb : (a.add j).block = a.block := by unfold Addr.add; split <;> rfl
  refine World.cell?_of_block ?_
  rw [hb]
  exact k a ha

theorem Cells.heap {w w' : World} {p : Option Addr} {cs : List Value} (h : Cells w p cs) (k : w'.heap = w.heap) : Cells w' p cs := h.upd (fun _ _ => by rw [k])

theorem cell_lt {w : World} {a : Addr} {v : Value} (h : w.cell? a = some v) : a.block < w.heap.size := by
  unfold World.cell? at h
  split at h
  · exact lt_of_blk (by assumption)
  · cases h

theorem add_block (a : Addr) (j : Nat) : (a.add j).block = a.block := by unfold Addr.add; split <;> rfl

/-- What was there at the start, behind a call's own turns. -/
theorem Cells.old {F : Nat → Prop} {w w' : World} {p : Option Addr} {cs : List Value} (h : Cells w p cs) (k : Upd F w w') (hF : ∀ i, i < w.heap.size → ¬ F i) : Cells w' p cs := by
  intro j v hj
  obtain ⟨a, ha, hc⟩ := h j v hj
  refine ⟨a, ha, ?_⟩
  have hl := cell_lt hc
  rw [← hc]
  exact World.cell?_of_block (k.blk _ hl (hF _ hl))
theorem Cells.no {w w' : World} {p : Option Addr} {cs : List Value} (h : Cells w p cs) (k : Upd no w w') : Cells w' p cs := h.old k (fun _ _ => id)

theorem flat_at {α : Type} {f : α → List Value} {sz : Nat} (hf : ∀ x, (f x).length = sz) : ∀ {l : List α} {i j : Nat} {v : Value} (hi : i < l.length), (f l[i])[j]? = some v → (l.flatMap f)[i * sz + j]? = some v
  | x :: l, 0, j, v, _, h => by
    have hj : j < (f x).length := (List.getElem?_eq_some_iff.1 h).1
    simp only [List.flatMap_cons, Nat.zero_mul, Nat.zero_add]
    rw [List.getElem?_append_left hj]
    exact h
  | x :: l, i + 1, j, v, hi, h => by
    simp only [List.flatMap_cons]
    rw [List.getElem?_append_right (by rw [hf, Nat.add_mul, Nat.one_mul]; omega), hf, Nat.add_mul, Nat.one_mul, show i * sz + sz + j - sz = i * sz + j by omega]
    exact flat_at hf (by simpa using hi) h

/-- An element of several cells. -/
theorem Cells.atk {w : World} {p : Option Addr} {α : Type} {f : α → List Value} {l : List α} {sz : Nat} (h : Cells w p (l.flatMap f)) (hf : ∀ x, (f x).length = sz) (hs : 0 < sz) {i : Nat} (hi : i < l.length) :
    ∃ a, p = some a ∧ ∀ (j : Nat) v, (f l[i])[j]? = some v → w.cell? ((a.add (i * sz)).add j) = some v := by
  obtain ⟨v0, hv0⟩ : ∃ v, (f l[i])[0]? = some v := ⟨(f l[i])[0]'(by rw [hf]; exact hs), by simp [hf, hs]⟩
  obtain ⟨a, rfl, _⟩ := h _ v0 (flat_at hf hi hv0)
  refine ⟨a, rfl, fun j v hj => ?_⟩
  obtain ⟨a', ha, hc⟩ := h _ v (flat_at hf hi hj)
  obtain rfl := Option.some.inj ha
  rw [Addr.add_add]
  exact hc

/-! ### A call's own list of numbers -/

/-- A list that the call made itself: nothing that was there at its start has turned. -/
structure Loc (W w : World) (T : TypeId) (p : Option Addr) (c : Nat) (l : List Int) : Prop where
  U : Upd no W w
  S : Sl w T 1 p l.length c (l.map (Value.int .i64))
  F : ∀ i, fpS p i → W.heap.size ≤ i

section
variable {W w w' : World} {T : TypeId} {p : Option Addr} {c : Nat} {l : List Int}
theorem Loc.nil (h : Upd no W w) (T : TypeId) : Loc W w T none 0 [] := ⟨h, Sl.nil _ _ _, fun i ⟨a, ha, _⟩ => by cases ha⟩
theorem Loc.upd (h : Loc W w T p c l) (k : Upd no w w') : Loc W w' T p c l := ⟨h.U.trans k (fun _ _ h => h), h.S.upd k (fun _ _ h => h), h.F⟩

/-- One more at the end of an owned list. -/
theorem append1 {P : Program} {t e : TypeId} {z : List Value} (he : ElemT P t e 1 8 z) {w w1 : World} {p : Option Addr} {c : Nat} {l : List Int} {x : Int} (h : Sl w e 1 p l.length c (l.map (Value.int .i64))) (hb : l.length ≤ 1048576)
    {T : TypeId} (hN : Newed w w1 (.cells (List.toArray [Value.int .i64 x]) T (0, 0))) (ty : TypeId) :
    ∃ p' n' c' w2, (Builtin.append_ #[t, t] ty #[.slice p l.length c, .slice (some ⟨w.heap.size, 0, none⟩) 1 1]).run P w1 = .ok (.slice p' n' c') w2 ∧ n' = (l ++ [x]).length ∧
      Sl w2 e 1 p' (l ++ [x]).length c' ((l ++ [x]).map (Value.int .i64)) ∧ Upd (fpS p) w w2 ∧ (∀ i, fpS p' i → fpS p i ∨ w.heap.size ≤ i) := by
  have h1 : Sl w1 e 1 p l.length c (l.map (Value.int .i64)) := h.upd (hN.upd no) (fun _ _ hn => hn)
  have hN' : Sl w1 T 1 (some ⟨w.heap.size, 0, none⟩) 1 1 [.int .i64 x] := Sl.new hN (by simp) (by unfold maxLen; omega)
  obtain ⟨p', n', c', w2, hr, hn, hS, hU, hF⟩ := run_append he h1 hN'.cells (m := 1) (d := 1) (by simp) (by simp [Value.oneCell']) (by simp) (by omega) (by omega) ty
  refine ⟨p', n', c', w2, hr, by simp [hn], by simpa using hS, (hN.upd _).trans hU (fun i _ hi => hi), fun i hi => (hF i hi).imp id (fun h => ?_)⟩
  rw [hN.size] at h; omega

theorem Loc.push {P : Program} {t : TypeId} {z : List Value} (h : Loc W w T p c l) (he : ElemT P t T 1 8 z) (hb : l.length ≤ 1048576) {x : Int} {w1 : World} {T' : TypeId} (hN : Newed w w1 (.cells (List.toArray [Value.int .i64 x]) T' (0, 0))) (ty : TypeId) :
    ∃ p' c' w2, (Builtin.append_ #[t, t] ty #[.slice p l.length c, .slice (some ⟨w.heap.size, 0, none⟩) 1 1]).run P w1 = .ok (.slice p' (l ++ [x]).length c') w2 ∧ Loc W w2 T p' c' (l ++ [x]) := by
  obtain ⟨p', n', c', w2, hr, hn, hS, hU, hF⟩ := append1 he h.S hb hN ty
  subst hn
  refine ⟨p', c', w2, hr, h.U.trans hU (fun i hi hf => absurd (h.F i hf) (by omega)), hS, fun i hi => ?_⟩
  rcases hF i hi with k | k
  · exact h.F i k
  · exact Nat.le_trans h.U.size k
end

end Go.Dav
