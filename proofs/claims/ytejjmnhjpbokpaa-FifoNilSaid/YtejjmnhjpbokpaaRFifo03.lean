/- What the document's queue of numbers comes to; a queue's number that is dropped. -/
import Derived.Test.YtejjmnhjpbokpaaFifo03
namespace Go.Dav
open Go.Proofs

theorem erase_wo {l : List Int} (h : l.Nodup) (n : Int) : wo l n = l.erase n := by
  rw [h.erase_eq_filter, wo]
  congr 1
  funext x
  by_cases hx : x = n <;> simp [hx]

abbrev RfO (b : Nat) : Ob ((Nat × List Int) × Option Addr × Nat) := Hd b 43 3 1 (fun (x : Nat × List Int) p c => [.int .i64 x.1, .slice p x.2.length c]) (fun x => x.2.length) (fun x => x.2.map (Value.int .i64))

section
variable {w : World} {F : Fp} {b : Nat} {x : Nat × List Int} {y : Option Addr × Nat}

theorem rnew_ok (n : Int) (w : World) : Calls Try.prog 14 #[.int .i64 n] w fun e w' =>
    (¬ (1 ≤ n ∧ n ≤ 1024) ∧ e = .returned (.tuple #[.pointer none, .int .i64 2]) ∧ w' = w) ∨
    ((1 ≤ n ∧ n ≤ 1024) ∧ ∃ b F, e = .returned (.tuple #[.pointer (some ⟨b, 0, none⟩), .int .i64 0]) ∧ RfO b w' F ((n.toNat, []), none, 0) ∧ Upd no w w' ∧ ∀ i, F i → w.heap.size ≤ i) := by
  refine u14 ?_
  rw [t14]
  refine ⟨fun h1 => ⟨fun h2 => .inl ⟨?_, rfl, rfl⟩, fun h2 => ⟨fun w2 hN => .inr ⟨?_, w.heap.size, fun i => i = w.heap.size, rfl, ?_, hN.upd no, fun i hi => Nat.le_of_eq hi.symm⟩⟩⟩, fun h1 => .inl ⟨?_, rfl, rfl⟩⟩
  · simp at h2; omega
  · simp at h1 h2; omega
  · have h1 : 0 ≤ n := by simp at h1; omega
    exact Hd.nil hN (by simp only; rw [Int.toNat_of_nonneg h1]; rfl) rfl rfl
  · simp at h1; omega

theorem rfront_ok (h : RfO b w F (x, y)) : Calls Try.prog 21 #[.pointer (some ⟨b, 0, none⟩)] w fun e w' => e = .returned (.tuple #[.int .i64 (frontE x).1, .int .i64 (frontE x).2]) ∧ w' = w := by
  obtain ⟨xc, xl⟩ := x
  refine u21 ?_
  rw [t21]
  refine ⟨_, rfl, _, _, _, h.blk.cell rfl, fun k1 => ?_, fun k1 => ⟨_, rfl, _, _, _, h.blk.cell rfl, ?_⟩⟩
  · have k1 : xl = [] := by simpa using k1
    subst k1
    exact ⟨rfl, rfl⟩
  · cases xl with
    | nil => simp at k1
    | cons v l =>
      obtain ⟨a, ha, hc⟩ := h.sl.cells.at1 (l := v :: l) (i := 0) (by simp)
      exact ⟨⟨by omega, by simp⟩, a, ha, v, hc, rfl, rfl⟩

/-- The list is another one, freshly made. -/
theorem RfO.swap {w1 w2 : World} {p' : Option Addr} {c' : Nat} {l' : List Int} (h : RfO b w F (x, y)) (hL : Loc w w1 3 p' c' l') (hW : Wrote w1 w2 b [.int .i64 x.1, .slice p' l'.length c'] 43) :
    Turn (RfO b) w w2 F ((x.1, l'), p', c') := h.put hL.S (hL.U.mono fun _ _ h => h.elim) (fun i hi => .inr (hL.F i hi)) hW

theorem rpush_ok (h : RfO b w F (x, y)) (hl : x.2.length ≤ x.1) (hb : x.1 ≤ 1024) (n : Int) : Calls Try.prog 15 #[.pointer (some ⟨b, 0, none⟩), .int .i64 n] w fun e w' => e = .returned (.int .i64 (pushE x n)) ∧ ∃ y', Turn (RfO b) w w' F (pushS x n, y') := by
  refine u15 ?_
  rw [t15]
  refine ⟨_, rfl, _, _, _, h.blk.cell rfl, ⟨(fHas_ok h.sl.cells (by simp only; omega) n).mono ?_⟩⟩
  rintro e w1 ⟨rfl, rfl⟩
  refine ⟨_, rfl, fun k1 => ?_, fun k1 => ?_⟩
  · have k1 : n ∈ x.2 := by simpa using k1
    have e1 : pushE x n = 6 := by simp [pushE, k1]
    rw [pushS, e1]
    exact ⟨rfl, y, Turn.same h⟩
  · have k1 : n ∉ x.2 := by simpa using k1
    intro w2 q1 q2 q3 q4
    have hU := Upd.same no q1 q2 q3 q4
    have h2 : RfO b w2 F (x, y) := (Frame.hd ..).upd h hU (fun _ _ h => h)
    refine ⟨_, rfl, _, _, _, h2.blk.cell rfl, _, rfl, _, h2.blk.cell rfl, fun k2 => ?_, fun k2 => ?_⟩
    · have k2 : x.2.length = x.1 := by simp at k2; omega
      have e1 : pushE x n = 5 := by simp [pushE, k1, k2]
      rw [pushS, e1]
      exact ⟨rfl, y, Turn.quiet h hU⟩
    · have k2 : x.2.length ≠ x.1 := by simp at k2; omega
      have e1 : pushE x n = 0 := by simp [pushE, k1, k2]
      rw [pushS, e1, if_pos rfl]
      refine ⟨_, rfl, _, _, _, h2.blk.cell rfl, ⟨fun w3 hN => ?_⟩⟩
      obtain ⟨p', n', c', w4, hr, hn, hS, hU2, hF⟩ := append1 elI h2.sl (by simp only; omega) hN 22
      subst hn
      have hB := h2.blkU hU2
      refine ⟨p', _, c', w4, hr, _, rfl, hB.wr (by simp) (fun w5 hW => ⟨rfl, (p', c'), ?_⟩)⟩
      obtain ⟨F', t1, t2, t3⟩ := h2.put (s' := (x.1, x.2 ++ [n])) hS hU2 hF hW
      exact ⟨F', t1, (hU.mono fun _ _ h => h.elim).trans t2 (fun _ _ h => h), fun i hi => (t3 i hi).imp id (fun h => Nat.le_trans hU.size h)⟩

theorem rpop_ok (h : RfO b w F (x, y)) (hl : x.2.length ≤ x.1) (hb : x.1 ≤ 1024) (hn : x.2.Nodup) : Calls Try.prog 16 #[.pointer (some ⟨b, 0, none⟩)] w fun e w' => e = .returned (.tuple #[.int .i64 (frontE x).1, .int .i64 (frontE x).2]) ∧ ∃ y', Turn (RfO b) w w' F (popS x, y') := by
  refine u16 ?_
  rw [t16]
  refine ⟨(rfront_ok h).mono ?_⟩
  rintro e w1 ⟨rfl, rfl⟩
  obtain ⟨xc, xl⟩ := x
  cases xl with
  | nil => exact ⟨_, _, rfl, fun k => by simp [frontE] at k, fun _ => ⟨rfl, y, Turn.same h⟩⟩
  | cons v l =>
    simp only at hl hb hn
    refine ⟨_, _, rfl, fun _ => ⟨_, rfl, _, _, _, h.blk.cell rfl, ⟨(fWithout_ok h.sl.cells (by simp only; omega) _).mono ?_⟩⟩, fun k => by simp [frontE] at k⟩
    rintro e w2 ⟨p', c', rfl, hL⟩
    have hw : wo (v :: l) v = l := by rw [erase_wo hn]; simp
    have hL : Loc w1 w2 3 p' c' l := by
      have := hL
      rw [show wo (v :: l) (frontE (xc, v :: l)).1 = l from hw] at this
      exact this
    refine ⟨_, _, _, rfl, _, rfl, (h.blk.upd hL.U id).wr (by simp) (fun w3 hW => ⟨rfl, (p', c'), ?_⟩)⟩
    refine h.swap hL ?_
    have hW := hW
    simp only at hW
    rw [show wo (v :: l) (frontE (xc, v :: l)).1 = l from hw] at hW
    exact hW

theorem rdrop_ok (h : RfO b w F (x, y)) (hl : x.2.length ≤ x.1) (hb : x.1 ≤ 1024) (hn : x.2.Nodup) (n : Int) : Calls Try.prog 18 #[.pointer (some ⟨b, 0, none⟩), .int .i64 n] w fun e w' => e = .returned (.int .i64 (dropE x n)) ∧ ∃ y', Turn (RfO b) w w' F (dropS x n, y') := by
  refine u18 ?_
  rw [t18]
  refine ⟨_, rfl, _, _, _, h.blk.cell rfl, ⟨(fHas_ok h.sl.cells (by simp only; omega) n).mono ?_⟩⟩
  rintro e w1 ⟨rfl, rfl⟩
  refine ⟨_, rfl, fun k1 => ?_, fun k1 => ?_⟩
  · have k1 : n ∉ x.2 := by simpa using k1
    have e1 : dropE x n = 4 := by simp [dropE, k1]
    rw [dropS, e1, List.erase_of_not_mem k1]
    exact ⟨rfl, y, Turn.same h⟩
  · have k1 : n ∈ x.2 := by simpa using k1
    have e1 : dropE x n = 0 := by simp [dropE, k1]
    rw [dropS, e1, ← erase_wo hn]
    refine ⟨_, rfl, _, _, _, h.blk.cell rfl, ⟨(fWithout_ok h.sl.cells (by simp only; omega) n).mono ?_⟩⟩
    rintro e w2 ⟨p', c', rfl, hL⟩
    exact ⟨_, _, _, rfl, _, rfl, (h.blk.upd hL.U id).wr (by simp) (fun w3 hW => ⟨rfl, (p', c'), h.swap hL hW⟩)⟩

theorem rturn_ok (h : RfO b w F (x, y)) (hl : x.2.length ≤ x.1) (hb : x.1 ≤ 1024) (hn : x.2.Nodup) : Calls Try.prog 19 #[.pointer (some ⟨b, 0, none⟩)] w fun e w' => e = .returned (.int .i64 (turnE x)) ∧ ∃ y', Turn (RfO b) w w' F (turnS x, y') := by
  refine u19 ?_
  rw [t19]
  refine ⟨(rpop_ok h hl hb hn).mono ?_⟩
  rintro e w1 ⟨rfl, y1, F1, t1, t2, t3⟩
  obtain ⟨xc, xl⟩ := x
  cases xl with
  | nil => exact ⟨_, _, rfl, fun k => by simp [frontE] at k, fun _ => ⟨rfl, y1, F1, t1, t2, t3⟩⟩
  | cons v l =>
    simp only at hl hb hn
    simp only [List.length_cons] at hl
    refine ⟨_, _, rfl, fun _ => ⟨_, rfl, _, _, _, t1.blk.cell rfl, ⟨fun w3 hN => ?_⟩⟩, fun k => by simp [frontE] at k⟩
    obtain ⟨p', n', c', w4, hr, hn', hS, hU2, hF⟩ := append1 elI t1.sl (by simp only [popS, List.tail_cons]; omega) hN 22
    subst hn'
    have hB := t1.blkU hU2
    refine ⟨p', _, c', w4, hr, _, rfl, hB.wr (by simp) (fun w5 hW => ⟨rfl, (p', c'), ?_⟩)⟩
    obtain ⟨F', r1, r2, r3⟩ := t1.put (s' := (xc, l ++ [v])) hS hU2 hF hW
    refine ⟨F', r1, t2.trans r2 (fun i hi hf => (t3 i hf).elim id (fun h => absurd h (by omega))), fun i hi => ?_⟩
    rcases r3 i hi with h | h
    · exact t3 i h
    · exact .inr (Nat.le_trans t2.size h)
end

section
variable {w : World} {F : Fp} {b : Nat} {x : Nat × List Int} {g : Ring} {y : Option Addr × Nat}
theorem FqO.nodup (h : FqO b w F x) : x.2.Nodup := by obtain ⟨_, _, _, _, _, _, h5⟩ := h; exact h5

/-- The list l with what follows the place k moved down, up to the place i. -/
def shift (l : List Int) (k i : Nat) : List Int := (List.range l.length).map (fun j => if k ≤ j ∧ j < i then l.getD (j + 1) 0 else l.getD j 0)
theorem shift_start (l : List Int) (k : Nat) : shift l k k = l := by
  apply List.ext_getElem?
  intro j
  by_cases h : j < l.length
  · simp [shift, h, show ¬ (k ≤ j ∧ j < k) by omega]
  · simp [shift, h]
theorem shift_step {l : List Int} {k i : Nat} (hk : k ≤ i) (hi : i + 1 < l.length) : (shift l k i).set i (l[i + 1]) = shift l k (i + 1) := by
  apply List.ext_getElem?
  intro j
  rw [List.getElem?_set]
  by_cases h : j < l.length
  · by_cases hij : i = j
    · subst hij
      simp [shift, h, hk, hi]
    · rw [if_neg hij]
      have : (k ≤ j ∧ j < i) ↔ (k ≤ j ∧ j < i + 1) := by omega
      simp [shift, h, this]
  · by_cases hij : i = j
    · omega
    · simp [shift, h, hij]
theorem shift_end {l : List Int} {k : Nat} (hk : k < l.length) : (shift l k (l.length - 1)).take (l.length - 1) = l.eraseIdx k := by
  apply List.ext_getElem?
  intro j
  rw [List.getElem?_take, List.getElem?_eraseIdx]
  by_cases h : j < l.length - 1
  · have h2 : j < l.length := by omega
    have h3 : j + 1 < l.length := by omega
    by_cases hkj : j < k
    · simp [shift, h, h2, hkj, show ¬ k ≤ j by omega]
    · simp [shift, h, h2, h3, hkj, show k ≤ j by omega]
  · rw [if_neg h]
    split <;> (symm; apply List.getElem?_eq_none; omega)

theorem qdrop_ok (h : FqO b w F x) (n : Int) : Calls Try.prog 17 #[.pointer (some ⟨b, 0, none⟩), .int .i64 n] w fun e w' => e = .returned (.int .i64 (dropE x n)) ∧ Turn (FqO b) w w' F (dropS x n) := by
  have hnd := h.nodup
  obtain ⟨g, y, h1, h2, h3, h4, h5⟩ := id h
  obtain ⟨xc, l⟩ := x
  simp only at h3 h4 h5 hnd
  refine u17 ?_
  rw [t17]
  refine ⟨fun h => by simp at h, fun _ => ⟨(list_ok h1 h2).mono ?_⟩⟩
  rintro e w1 ⟨p, c, rfl, hL⟩
  rw [h4] at hL ⊢
  have hm := h2.m
  have hle := h2.le
  have hlen : l.length = g.m := by rw [← h4, view_length]
  refine ⟨_, _, _, rfl, ⟨(index_ok hL.S.cells (by omega) n).mono ?_⟩⟩
  rintro e w1' ⟨rfl, rfl⟩
  refine ⟨_, rfl, fun k1 => ?_, fun k1 => ?_⟩
  · have k1 : n ∉ l := fun hm => by simp [idx, hm] at k1; omega
    have e1 : dropE (xc, l) n = 4 := by simp [dropE, k1]
    rw [dropS, e1, List.erase_of_not_mem k1]
    exact ⟨rfl, Turn.quiet h hL.U⟩
  · have k1 : n ∈ l := by
      refine Decidable.byContradiction fun hm => ?_
      simp [idx, hm] at k1
    have e1 : dropE (xc, l) n = 0 := by simp [dropE, k1]
    have hi : idx l n = (l.idxOf n : Int) := by simp [idx, k1]
    have hk : l.idxOf n < l.length := List.idxOf_lt_length_of_mem k1
    rw [dropS, e1, hi]
    generalize hkk : l.idxOf n = k at hk ⊢
    have hR1 : RO b w1' F (g, y) := (Frame.hd ..).upd h1 hL.U (fun _ _ h => h)
    -- the loop
    refine ⟨WP_loop okProg (M := M17) (σ := Nat × List Int) (fun s => e17_1 (some ⟨b, 0, none⟩) p l.length c (s.1 : Int))
      (fun s w' => k ≤ s.1 ∧ s.1 + 1 ≤ l.length ∧ s.2.length = g.r.length ∧ view ⟨s.2, g.f, g.m⟩ = shift l k s.1 ∧ Upd F w1' w' ∧ RO b w' F (⟨s.2, g.f, g.m⟩, y) ∧ Cells w' p (l.map (Value.int .i64))) (fun s _ => l.length - s.1) (k, g.r)
      ⟨rfl, rfl, rfl, trivial⟩ ⟨by simp, by simp only; omega, rfl, by simp only; rw [shift_start]; exact h4, Upd.refl _ _, hR1, hL.S.cells⟩ ?_⟩
    rintro ⟨i, r⟩ w2 ⟨i1, i2, i3, i4, hU2, hR2, hC2⟩
    simp only at i1 i2 i3 i4 hR2 ⊢
    rw [t17_1]
    have ew : IntKind.wrap .i64 ((i : Int) + 1) = ((i + 1 : Nat) : Int) := by rw [w64 (by omega)]; rfl
    rw [ew]
    refine ⟨fun hlt w3 q1 q2 q3 q4 => ?_, fun hge => ?_⟩
    · have hi1 : i + 1 < l.length := by simp at hlt; omega
      have hU3 := Upd.same no q1 q2 q3 q4
      have hR3 : RO b w3 F (⟨r, g.f, g.m⟩, y) := (Frame.hd ..).upd hR2 hU3 (fun _ _ h => h)
      have hok : Ring.ok ⟨r, g.f, g.m⟩ := ⟨by rw [i3]; exact h2.pos, by rw [i3]; exact hle, by rw [i3]; exact h2.f, by rw [i3]; exact hm⟩
      obtain ⟨a, ha, hc⟩ := (hC2.no hU3).at1 hi1
      refine ⟨_, rfl, _, _, _, hR3.blk.cell rfl, ⟨by omega, by omega⟩, a, ha, _, hc, ⟨(at_ok hR3 hok (k := i) (by rw [i3]; omega)).mono ?_⟩⟩
      rintro e w4 ⟨rfl, hU4⟩
      have hR4 : RO b w4 F (⟨r, g.f, g.m⟩, y) := (Frame.hd ..).upd hR3 hU4 (fun _ _ h => h)
      obtain ⟨a', ha', hc'⟩ := ((hC2.no hU3).no hU4).at1 hi1
      have haa : a' = a := Option.some.inj (ha'.symm.trans ha)
      subst haa
      have hpl : pl r.length g.f i < r.length := pl_lt hok.f (by rw [i3]; omega)
      have hS4 := hR4.sl
      obtain ⟨a2, ha2, _⟩ := hS4.cells.at1 (l := r) (i := 0) (by rw [i3]; exact h2.pos)
      simp only at ha2 hS4
      refine ⟨_, rfl, hc', hR4.blk.cell rfl, ⟨by omega, by simp only; omega⟩, a2, ha2, ?_⟩
      rw [ha2] at hS4
      refine hS4.wr (o := pl r.length g.f i * 1) (by simp; omega) (fun w5 hS5 hU5 => ?_)
      have hset : setL (r.map (Value.int .i64)) (pl r.length g.f i * 1) [.int .i64 l[i + 1]] = (r.set (pl r.length g.f i) l[i + 1]).map (Value.int .i64) := by
        rw [Nat.mul_one]
        exact setL_set hpl
      rw [hset] at hS5
      have hU5F : Upd F w4 w5 := hU5.mono (fun j _ hj => (hR4.2.2.2 j).2 (.inr (by rw [ha2]; exact hj)))
      have hR5 : RO b w5 F (⟨r.set (pl r.length g.f i) l[i + 1], g.f, g.m⟩, y) := by
        refine ⟨?_, ?_, hR4.2.2.1, hR4.2.2.2⟩
        · have := hR4.blkU (w1 := w5) (by rw [ha2]; exact hU5)
          simpa [fqE] using this
        · simp only [List.length_set]
          rw [ha2]; exact hS5
      have hCdis : ∀ a, p = some a → ¬ F a.block := fun a ha hf => by
        have k1 := hL.F a.block ⟨a, ha, rfl⟩
        have k2 := (Frame.fq b).lt h _ hf
        omega
      refine ⟨(i + 1, r.set (pl r.length g.f i) l[i + 1]), ⟨rfl, rfl, rfl, trivial⟩, ⟨by simp only; omega, by simp only; omega, by simp only [List.length_set]; exact i3, ?_, ?_, hR5, ?_⟩, by simp only; omega⟩
      · have := view_set hok (i := i) (by simp only; rw [i3]; omega) l[i + 1] (m := g.m) (by simp only; rw [i3]; exact hm)
        simp only at this
        rw [this, i4, shift_step i1 hi1]
      · exact ((hU2.trans hU3 (fun _ _ h => h.elim)).trans hU4 (fun _ _ h => h.elim)).trans hU5F (fun _ _ h => h)
      · exact ((hC2.no hU3).no hU4).upd (fun a ha => by
          have k1 := (hL.S.lt a.block ⟨a, ha, rfl⟩)
          exact hU5F.blk _ (Nat.lt_of_lt_of_le k1 (Nat.le_trans hU2.size (Nat.le_trans hU3.size hU4.size))) (hCdis a ha))
    · have hi1 : i + 1 = l.length := by simp at hge; omega
      refine ⟨_, rfl, _, hR2.blk.cell rfl, _, rfl, hR2.blk.wr (by simp [fqE]) (fun w3 hW => ⟨rfl, ?_⟩)⟩
      have hB3 : Blk w3 b (fqE ⟨r, g.f, g.m - 1⟩ y.1 y.2) 48 := by
        have := hW.blk'
        rw [w64 (x := (g.m : Int) - 1) (by omega)] at this
        show Blk w3 b [.slice y.1 r.length y.2, .int .i64 g.f, .int .i64 ((g.m - 1 : Nat) : Int)] _
        rw [show ((g.m - 1 : Nat) : Int) = (g.m : Int) - 1 by omega]
        exact this
      have hR3 : RO b w3 F (⟨r, g.f, g.m - 1⟩, y) := ⟨hB3, hR2.sl.upd hW.U (fun j hj e => hR2.2.2.1 (e ▸ hj)), hR2.2.2.1, hR2.2.2.2⟩
      have hUF : Upd F w w3 := ((hL.U.mono fun _ _ h => h.elim).trans hU2 (fun _ _ h => h)).trans hW.U (fun j _ hj => (hR2.2.2.2 j).2 (.inl hj))
      refine ⟨F, ⟨_, y, hR3, ⟨by simp only; rw [i3]; exact h2.pos, by simp only; rw [i3]; exact hle, by simp only; rw [i3]; exact h2.f, by simp only; rw [i3]; omega⟩, by simp only; rw [i3]; exact h3, ?_, ?_⟩, hUF, fun _ hi => .inl hi⟩
      · rw [view_less r g.f (m := g.m) (by omega), i4, show i = l.length - 1 by omega, ← hlen, shift_end hk, List.erase_eq_eraseIdx_of_idxOf hkk]
      · exact hnd.erase n
end
end Go.Dav
