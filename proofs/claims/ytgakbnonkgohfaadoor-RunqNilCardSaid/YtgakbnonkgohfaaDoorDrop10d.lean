/- A number is out of the queue, wherever it is. -/
import Derived.Test.YtgakbnonkgohfaaDoorFifo10d
set_option linter.unusedVariables false
set_option linter.unusedSimpArgs false
namespace Go.Dav
open Go.Proofs
section
variable {w : World} {F : Fp} {b : Nat} {x : Nat × List Int} {g : Ring} {y : Option Addr × Nat}
theorem FqO.nodup (h : FqO b w F x) : x.2.Nodup := by obtain ⟨_, _, _, _, _, _, h5⟩ := h; exact h5

/-- The list l with what follows the place k moved down, up to the place i. -/
def shift (l : List Int) (k i : Nat) : List Int := (List.range l.length).map (fun j => if k ≤ j ∧ j < i then l.getD (j + 1) 0 else l.getD j 0)
theorem shift_start (l : List Int) (k : Nat) : shift l k k = l := by
  apply List.ext_getElem?
  intro j
  by_cases h : j < l.length
  · simp [shift, h, show ¬ (k ≤ j ∧ j < k) by omega]
  · simp [shift, h]
theorem shift_step {l : List Int} {k i : Nat} (hk : k ≤ i) (hi : i + 1 < l.length) : (shift l k i).set i (l[i + 1]) = shift l k (i + 1) := by
  apply List.ext_getElem?
  intro j
  rw [List.getElem?_set]
  by_cases h : j < l.length
  · by_cases hij : i = j
    · subst hij
      simp [shift, h, hk, hi]
    · rw [if_neg hij]
      have : (k ≤ j ∧ j < i) ↔ (k ≤ j ∧ j < i + 1) := by omega
      simp [shift, h, this]
  · by_cases hij : i = j
    · omega
    · simp [shift, h, hij]
theorem shift_end {l : List Int} {k : Nat} (hk : k < l.length) : (shift l k (l.length - 1)).take (l.length - 1) = l.eraseIdx k := by
  apply List.ext_getElem?
  intro j
  rw [List.getElem?_take, List.getElem?_eraseIdx]
  by_cases h : j < l.length - 1
  · have h2 : j < l.length := by omega
    have h3 : j + 1 < l.length := by omega
    by_cases hkj : j < k
    · simp [shift, h, h2, hkj, show ¬ k ≤ j by omega]
    · simp [shift, h, h2, h3, hkj, show k ≤ j by omega]
  · rw [if_neg h]
    split <;> (symm; apply List.getElem?_eq_none; omega)

set_option maxRecDepth 100000 in
theorem qdrop_ok (h : FqO b w F x) (n : Int) : Calls Tryd.prog 68 #[.pointer (some ⟨b, 0, none⟩), .int .i64 n] w fun e w' => e = .returned (.int .i64 (dropE x n)) ∧ Turn (FqO b) w w' F (dropS x n) := by
  have hnd := h.nodup
  obtain ⟨g, y, h1, h2, h3, h4, h5⟩ := id h
  obtain ⟨xc, l⟩ := x
  simp only at h3 h4 h5 hnd
  refine u68 ?_
  rw [t68]
  refine ⟨fun h => by simp at h, fun _ => ⟨(list_ok h1 h2).mono ?_⟩⟩
  rintro e w1 ⟨p, c, rfl, hL⟩
  rw [h4] at hL ⊢
  have hm := h2.m
  have hle := h2.le
  have hlen : l.length = g.m := by rw [← h4, view_length]
  refine ⟨_, _, _, rfl, ⟨(index_ok hL.S.cells (by omega) n).mono ?_⟩⟩
  rintro e w1' ⟨rfl, rfl⟩
  refine ⟨_, rfl, fun k1 => ?_, fun k1 => ?_⟩
  · have k1 : n ∉ l := fun hm => by simp [idx, hm] at k1; omega
    have e1 : dropE (xc, l) n = 4 := by simp [dropE, k1]
    rw [dropS, e1, List.erase_of_not_mem k1]
    exact ⟨rfl, Turn.quiet h hL.U⟩
  · have k1 : n ∈ l := by
      refine Decidable.byContradiction fun hm => ?_
      simp [idx, hm] at k1
    have e1 : dropE (xc, l) n = 0 := by simp [dropE, k1]
    have hi : idx l n = (l.idxOf n : Int) := by simp [idx, k1]
    have hk : l.idxOf n < l.length := List.idxOf_lt_length_of_mem k1
    rw [dropS, e1, hi]
    generalize hkk : l.idxOf n = k at hk ⊢
    have hR1 : RO b w1' F (g, y) := (Frame.hd ..).upd h1 hL.U (fun _ _ h => h)
    -- the loop
    refine ⟨WP_loop okProg (M := M68) (σ := Nat × List Int) (fun s => e68_1 (some ⟨b, 0, none⟩) p l.length c (s.1 : Int))
      (fun s w' => k ≤ s.1 ∧ s.1 + 1 ≤ l.length ∧ s.2.length = g.r.length ∧ view ⟨s.2, g.f, g.m⟩ = shift l k s.1 ∧ Upd F w1' w' ∧ RO b w' F (⟨s.2, g.f, g.m⟩, y) ∧ Cells w' p (l.map (Value.int .i64))) (fun s _ => l.length - s.1) (k, g.r)
      ⟨rfl, rfl, rfl, trivial⟩ ⟨by simp, by simp only; omega, rfl, by simp only; rw [shift_start]; exact h4, Upd.refl _ _, hR1, hL.S.cells⟩ ?_⟩
    rintro ⟨i, r⟩ w2 ⟨i1, i2, i3, i4, hU2, hR2, hC2⟩
    simp only at i1 i2 i3 i4 hR2 ⊢
    rw [t68_1]
    have ew : IntKind.wrap .i64 ((i : Int) + 1) = ((i + 1 : Nat) : Int) := by rw [w64 (by omega)]; rfl
    rw [ew]
    refine ⟨fun hlt w3 q1 q2 q3 q4 => ?_, fun hge => ?_⟩
    · have hi1 : i + 1 < l.length := by simp at hlt; omega
      have hU3 := Upd.same no q1 q2 q3 q4
      have hR3 : RO b w3 F (⟨r, g.f, g.m⟩, y) := (Frame.hd ..).upd hR2 hU3 (fun _ _ h => h)
      have hok : Ring.ok ⟨r, g.f, g.m⟩ := ⟨by rw [i3]; exact h2.pos, by rw [i3]; exact hle, by rw [i3]; exact h2.f, by rw [i3]; exact hm⟩
      obtain ⟨a, ha, hc⟩ := (hC2.no hU3).at1 hi1
      refine ⟨_, rfl, _, _, _, hR3.blk.cell rfl, ⟨by omega, by omega⟩, a, ha, _, hc, ⟨(at_ok hR3 hok (k := i) (by rw [i3]; omega)).mono ?_⟩⟩
      rintro e w4 ⟨rfl, hU4⟩
      have hR4 : RO b w4 F (⟨r, g.f, g.m⟩, y) := (Frame.hd ..).upd hR3 hU4 (fun _ _ h => h)
      obtain ⟨a', ha', hc'⟩ := ((hC2.no hU3).no hU4).at1 hi1
      have haa : a' = a := Option.some.inj (ha'.symm.trans ha)
      subst haa
      have hpl : pl r.length g.f i < r.length := pl_lt hok.f (by rw [i3]; omega)
      have hS4 := hR4.sl
      obtain ⟨a2, ha2, _⟩ := hS4.cells.at1 (l := r) (i := 0) (by rw [i3]; exact h2.pos)
      simp only at ha2 hS4
      refine ⟨_, rfl, hc', hR4.blk.cell rfl, ⟨by omega, by simp only; omega⟩, a2, ha2, ?_⟩
      rw [ha2] at hS4
      refine hS4.wr (o := pl r.length g.f i * 1) (by simp; omega) (fun w5 hS5 hU5 => ?_)
      have hset : setL (r.map (Value.int .i64)) (pl r.length g.f i * 1) [.int .i64 l[i + 1]] = (r.set (pl r.length g.f i) l[i + 1]).map (Value.int .i64) := by
        rw [Nat.mul_one]
        exact setL_set hpl
      rw [hset] at hS5
      have hU5F : Upd F w4 w5 := hU5.mono (fun j _ hj => (hR4.2.2.2 j).2 (.inr (by rw [ha2]; exact hj)))
      have hR5 : RO b w5 F (⟨r.set (pl r.length g.f i) l[i + 1], g.f, g.m⟩, y) := by
        refine ⟨?_, ?_, hR4.2.2.1, hR4.2.2.2⟩
        · have := hR4.blkU (w1 := w5) (by rw [ha2]; exact hU5)
          simpa [fqE] using this
        · simp only [List.length_set]
          rw [ha2]; exact hS5
      have hCdis : ∀ a, p = some a → ¬ F a.block := fun a ha hf => by
        have k1 := hL.F a.block ⟨a, ha, rfl⟩
        have k2 := (Frame.fq b).lt h _ hf
        omega
      refine ⟨(i + 1, r.set (pl r.length g.f i) l[i + 1]), ⟨rfl, rfl, rfl, trivial⟩, ⟨by simp only; omega, by simp only; omega, by simp only [List.length_set]; exact i3, ?_, ?_, hR5, ?_⟩, by simp only; omega⟩
      · have := view_set hok (i := i) (by simp only; rw [i3]; omega) l[i + 1] (m := g.m) (by simp only; rw [i3]; exact hm)
        simp only at this
        rw [this, i4, shift_step i1 hi1]
      · exact ((hU2.trans hU3 (fun _ _ h => h.elim)).trans hU4 (fun _ _ h => h.elim)).trans hU5F (fun _ _ h => h)
      · exact ((hC2.no hU3).no hU4).upd (fun a ha => by
          have k1 := (hL.S.lt a.block ⟨a, ha, rfl⟩)
          exact hU5F.blk _ (Nat.lt_of_lt_of_le k1 (Nat.le_trans hU2.size (Nat.le_trans hU3.size hU4.size))) (hCdis a ha))
    · have hi1 : i + 1 = l.length := by simp at hge; omega
      refine ⟨_, rfl, _, hR2.blk.cell rfl, _, rfl, hR2.blk.wr (by simp [fqE]) (fun w3 hW => ⟨rfl, ?_⟩)⟩
      have hB3 : Blk w3 b (fqE ⟨r, g.f, g.m - 1⟩ y.1 y.2) 91 := by
        have := hW.blk'
        rw [w64 (x := (g.m : Int) - 1) (by omega)] at this
        show Blk w3 b [.slice y.1 r.length y.2, .int .i64 g.f, .int .i64 ((g.m - 1 : Nat) : Int)] _
        rw [show ((g.m - 1 : Nat) : Int) = (g.m : Int) - 1 by omega]
        exact this
      have hR3 : RO b w3 F (⟨r, g.f, g.m - 1⟩, y) := ⟨hB3, hR2.sl.upd hW.U (fun j hj e => hR2.2.2.1 (e ▸ hj)), hR2.2.2.1, hR2.2.2.2⟩
      have hUF : Upd F w w3 := ((hL.U.mono fun _ _ h => h.elim).trans hU2 (fun _ _ h => h)).trans hW.U (fun j _ hj => (hR2.2.2.2 j).2 (.inl hj))
      refine ⟨F, ⟨_, y, hR3, ⟨by simp only; rw [i3]; exact h2.pos, by simp only; rw [i3]; exact hle, by simp only; rw [i3]; exact h2.f, by simp only; rw [i3]; omega⟩, by simp only; rw [i3]; exact h3, ?_, ?_⟩, hUF, fun _ hi => .inl hi⟩
      · rw [view_less r g.f (m := g.m) (by omega), i4, show i = l.length - 1 by omega, ← hlen, shift_end hk, List.erase_eq_eraseIdx_of_idxOf hkk]
      · exact hnd.erase n
end
end Go.Dav
