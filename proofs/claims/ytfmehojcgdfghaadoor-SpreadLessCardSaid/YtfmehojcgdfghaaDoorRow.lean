/- Plain words for a law's arguments: what a reading tells of a row of numbers, of a row of flat structs; what is left of them behind the call. -/
import Derived.Test.YtfmehojcgdfghaaDoorBits
import Derived.Below
import Derived.ChangeArms
import Derived.Deep.Slices
set_option linter.unusedSimpArgs false
set_option linter.unusedVariables false
namespace Go.Dav

inductive FK where
  | int (k : IntKind)
  | bool

def Fits : List FK → List Value → Prop
  | [], [] => True
  | .int k :: ks, .int k' n :: vs => k' = k ∧ (Lit.int k n).wf = true ∧ Fits ks vs
  | .bool :: ks, .bool _ :: vs => Fits ks vs
  | _, _ => False

def okFK (P : Program) (t : TypeId) : FK → Bool
  | .int k => match P.underlying t with
    | some (.int k') => decide (k' = k)
    | _ => false
  | .bool => match P.underlying t with
    | some .bool => true
    | _ => false

def flatOk (P : Program) : Nat → List Field → List FK → Bool
  | _, [], [] => true
  | i, f :: fs, k :: ks => decide (f.offset = i) && decide (P.cellsOf f.type = 1) && okFK P f.type k && flatOk P (i + 1) fs ks
  | _, _, _ => false

theorem okFK_int {P : Program} {t : TypeId} {k : IntKind} (h : okFK P t (.int k) = true) : P.underlying t = some (.int k) := by
  simp only [okFK] at h
  split at h
  · rename_i k' hu
    obtain rfl : k' = k := by simpa using h
    exact hu
  · cases h
theorem okFK_bool {P : Program} {t : TypeId} (h : okFK P t .bool = true) : P.underlying t = some .bool := by
  simp only [okFK] at h
  split at h
  · assumption
  · cases h

section
variable {H : Type} {enc : TypeId × Value → H} {P : Program} {w : World} {base : Nat} {spare : Nat → Bool} {held : Bool}

theorem one_fits {e : TypeId} {k : FK} {n : Nat} {cs : List Value} {y : DataW H × List MemPlace} (hk : okFK P e k = true) (h : DataW.trod enc P w base spare held n e cs = some y) : Fits [k] cs := by
  cases k with
  | int k =>
    obtain ⟨m, rfl, _, hw⟩ := DataW.trod_int (okFK_int hk) h
    exact ⟨rfl, hw, trivial⟩
  | bool =>
    obtain ⟨m, rfl, _⟩ := DataW.trod_bool (okFK_bool hk) h
    trivial

theorem Fits.cons {k : FK} {ks : List FK} {c : Value} {cs : List Value} (h : Fits [k] [c]) (hr : Fits ks cs) : Fits (k :: ks) (c :: cs) := by
  cases k <;> cases c <;> simp_all [Fits]

theorem flat_fits {n : Nat} : ∀ {fs : List Field} {ks : List FK} {i : Nat} {cs : List Value}, flatOk P i fs ks = true →
    (∀ (j : Nat) (f : Field), fs[j]? = some f → ∃ y, DataW.trod enc P w base spare held n f.type ((cs.drop f.offset).take (P.cellsOf f.type)) = some y) → cs.length = i + ks.length → Fits ks (cs.drop i)
  | [], [], i, cs, _, _, hl => by rw [List.drop_of_length_le (by simp at hl; omega)]; trivial
  | [], _ :: _, _, _, h, _, _ => by simp [flatOk] at h
  | _ :: _, [], _, _, h, _, _ => by simp [flatOk] at h
  | f :: fs, k :: ks, i, cs, h, ht, hl => by
    simp only [flatOk, Bool.and_eq_true, decide_eq_true_eq] at h
    obtain ⟨⟨⟨h1, h2⟩, h3⟩, h4⟩ := h
    have hi : i < cs.length := by rw [hl]; simp
    have hr := flat_fits (i := i + 1) (cs := cs) h4 (fun j g hg => ht (j + 1) g hg) (by rw [hl]; simp; omega)
    obtain ⟨y, hy⟩ := ht 0 f rfl
    rw [h1, h2, List.drop_eq_getElem_cons hi, List.take_succ_cons, List.take_zero] at hy
    rw [List.drop_eq_getElem_cons hi]
    exact (one_fits h3 hy).cons hr

def recOk (P : Program) (e : TypeId) (ks : List FK) : Bool := match P.underlying e with
  | some (.struct fs) => flatOk P 0 fs.toList ks && decide (P.cellsOf e = ks.length)
  | _ => false

theorem rec_fits {e : TypeId} {ks : List FK} {n : Nat} {cs : List Value} {y : DataW H × List MemPlace} (hk : recOk P e ks = true) (h : DataW.trod enc P w base spare held n e cs = some y) : Fits ks cs := by
  unfold recOk at hk
  split at hk
  · rename_i fs hu
    simp only [Bool.and_eq_true, decide_eq_true_eq] at hk
    obtain ⟨xs, m, _, rfl, hl, hlen, hf⟩ := DataW.trod_struct hu h
    have := flat_fits (enc := enc) (w := w) (base := base) (spare := spare) (held := held) (n := m) (cs := cs) hk.1 (fun j f hj => by
      have hj' : j < fs.size := by simpa using (List.getElem?_eq_some_iff.1 hj).1
      exact ⟨xs[j]'(by omega), by
        have := hf j f (by simpa using hj)
        rw [this]
        simp⟩) (by rw [hl, hk.2]; simp)
    simpa using this
  · cases hk

/-- A slice that came in: its elements, each of a known form. -/
theorem open_recs {α : Type} {f : α → List Value} {Q : α → Prop} {sz : Nat} {t e : TypeId} {v : Value} {a : Option Addr} {len cap : Nat} {d : DataW H} {p : List MemPlace}
    (hs : ∀ x, (f x).length = sz) (ht : P.underlying t = some (.slice e)) (hc : P.cellsOf e = sz)
    (hd : ∀ n cs y, DataW.trod enc P w base spare held n e cs = some y → ∃ x, cs = f x ∧ Q x) (hv : v = .slice a len cap) (h : DataW.Trod enc P w base spare held t v d p) :
    ∃ l : List α, len = l.length ∧ (∀ x ∈ l, Q x) ∧ Cells w a (l.flatMap f) ∧ len ≤ cap ∧ cap ≤ maxLen := by
  subst hv
  obtain ⟨fuel, h⟩ := h
  rcases Go.Deep.open_slice ht h with ⟨hcs, _⟩ | ⟨x, l, c, m, n, D, Pl, hcs, hb, hlc, hcm, hm, hx, hel⟩
  · simp [Value.cells] at hcs
    obtain ⟨rfl, rfl, rfl⟩ := hcs
    exact ⟨[], rfl, by simp, Cells.nil _ _, by omega, by omega⟩
  · simp [Value.cells] at hcs
    obtain ⟨rfl, rfl, rfl⟩ := hcs
    have hlm : len ≤ m := by rw [hm]; split <;> omega
    have each : ∀ i, i < len → ∃ y, Q y ∧ ∀ j u, (f y)[j]? = some u → w.cell? (x.add (i * sz + j)) = some u := by
      intro i hi
      obtain ⟨cs', h1, h2⟩ := hel i (by omega)
      obtain ⟨y, rfl, hq⟩ := hd _ _ _ h2
      refine ⟨y, hq, fun j u hj => ?_⟩
      rw [hc] at h1
      obtain ⟨_, hl, hcell⟩ := World.cells?_some h1
      have hj' : j < sz := by rw [← hs y]; exact (List.getElem?_eq_some_iff.1 hj).1
      rw [← Addr.add_add, hcell j hj', hj]
    have build : ∀ k, k ≤ len → ∃ l : List α, l.length = k ∧ (∀ y ∈ l, Q y) ∧ Cells w (some x) (l.flatMap f) := by
      intro k
      induction k with
      | zero => exact fun _ => ⟨[], rfl, by simp, Cells.nil _ _⟩
      | succ k ih =>
        intro hk
        obtain ⟨l, hl, hq, hcl⟩ := ih (by omega)
        obtain ⟨y, hy, hyc⟩ := each k (by omega)
        refine ⟨l ++ [y], by simp [hl], fun z hz => ?_, ?_⟩
        · rcases List.mem_append.1 hz with hz | hz
          · exact hq z hz
          · simp at hz; exact hz ▸ hy
        · intro j u hj
          refine ⟨x, rfl, ?_⟩
          have hfl : (l.flatMap f).length = k * sz := by rw [List.length_flatMap]; simp [hs, hl, List.map_const', List.sum_replicate_nat]
          rw [List.flatMap_append, List.flatMap_cons, List.flatMap_nil, List.append_nil] at hj
          by_cases hjl : j < (l.flatMap f).length
          · rw [List.getElem?_append_left hjl] at hj
            obtain ⟨a, ha, hc⟩ := hcl j u hj
            obtain rfl := Option.some.inj ha
            exact hc
          · rw [List.getElem?_append_right (by omega)] at hj
            have := hyc _ u hj
            rwa [show k * sz + (j - (l.flatMap f).length) = j by omega] at this
    obtain ⟨l, hl, hq, hcl⟩ := build len (Nat.le_refl _)
    exact ⟨l, hl.symm, hq, hcl, hlc, hcm⟩

theorem flatMap_one {α : Type} (f : α → Value) (l : List α) : l.flatMap (fun x => [f x]) = l.map f := by
  induction l with
  | nil => rfl
  | cons x l ih => simp [ih]

/-- .. of numbers. -/
theorem open_nums {k : IntKind} {t e : TypeId} {v : Value} {a : Option Addr} {len cap : Nat} {d : DataW H} {p : List MemPlace} (ht : P.underlying t = some (.slice e)) (hc : P.cellsOf e = 1) (he : okFK P e (.int k) = true)
    (hv : v = .slice a len cap) (h : DataW.Trod enc P w base spare held t v d p) : ∃ l : List Int, len = l.length ∧ (∀ x ∈ l, (Lit.int k x).wf = true) ∧ Cells w a (l.map (Value.int k)) ∧ len ≤ cap ∧ cap ≤ maxLen := by
  obtain ⟨l, h1, h2, h3, h4⟩ := open_recs (α := Int) (f := fun x => [Value.int k x]) (Q := fun x => (Lit.int k x).wf = true) (fun _ => rfl) ht hc (fun n cs y hy => by
    have := one_fits he hy
    match cs, this with
    | [.int _ m], ⟨rfl, hw, _⟩ => exact ⟨m, rfl, hw⟩) hv h
  rw [flatMap_one] at h3
  exact ⟨l, h1, h2, h3, h4⟩
end

theorem wf_i64 {n : Int} (h : (Lit.int .i64 n).wf = true) : -9223372036854775808 ≤ n ∧ n ≤ 9223372036854775807 := by
  simpa [Lit.wf, IntKind.min, IntKind.max, IntKind.signed, IntKind.bits] using h
theorem wf_u64 {n : Int} (h : (Lit.int .u64 n).wf = true) : 0 ≤ n ∧ n ≤ 18446744073709551615 := by
  simpa [Lit.wf, IntKind.min, IntKind.max, IntKind.signed, IntKind.bits] using h

theorem Upd.below {w w' : World} (h : Upd no w w') : RowKit.Below w.heap.size w w' := ⟨h.os, h.tape, h.output, h.size, fun k hk => h.blk k hk id⟩

end Go.Dav
