/- What the document's functions of a queue by priorities come to. -/
import Derived.Test.YtgakbnonkgohfaaDoorPqL10d
import Derived.Test.YtgakbnonkgohfaaDoorLoc
import Derived.Test.YtgakbnonkgohfaaDoorTq
set_option linter.unusedVariables false
set_option linter.unusedSimpArgs false
namespace Go.Dav
open Go.Proofs
theorem elIt : ElemT Tryd.prog 78 82 2 16 [.int .i64 0, .int .i64 0] := ⟨by kernel_rfl, by kernel_rfl, rfl, by omega⟩
theorem recII_one (x : Int × Int) : ∀ u ∈ recII x, u.oneCell' = true := by
  intro u hu
  simp only [recII, List.mem_cons, List.not_mem_nil, or_false] at hu
  rcases hu with rfl | rfl <;> rfl
abbrev RpH (b : Nat) : Ob ((Nat × Its) × Option Addr × Nat) := Hd b 80 82 2 (fun x p c => [.int .i64 x.1, .slice p x.2.length c]) (fun x => x.2.length) (fun x => x.2.flatMap recII)
/-- The document's queue: how many there may be, and what there is. -/
def RpO (b : Nat) : Ob (Nat × Its) := fun w F x => ∃ y, RpH b w F (x, y)
instance Frame.rp (b : Nat) : Frame (RpO b) where
  upd := fun ⟨y, h⟩ k hG => ⟨y, (Frame.hd ..).upd h k hG⟩
  lt := fun ⟨_, h⟩ => (Frame.hd ..).lt h
def fI (L : Its) (k : Int) : Int := match L.findIdx? (fun e => decide (e.2 = k)) with
  | none => -1
  | some i => i
theorem fI_cases (L : Its) (k : Int) : (fI L k = -1 ∧ (∀ e ∈ L, e.2 ≠ k) ∧ L.find? (fun e => decide (e.2 = k)) = none) ∨ ∃ (i : Nat) (hi : i < L.length), fI L k = i ∧ L[i].2 = k ∧ (∀ (j : Nat) (hj : j < i), (L[j]'(by omega)).2 ≠ k) ∧ L.find? (fun e => decide (e.2 = k)) = some L[i] := by
  unfold fI
  cases h : L.findIdx? (fun e => decide (e.2 = k)) with
  | none =>
    have h := List.findIdx?_eq_none_iff.1 h
    refine .inl ⟨rfl, fun e he => by have := h e he; simpa using this, List.find?_eq_none.2 fun e he => by have := h e he; simpa using this⟩
  | some i =>
    obtain ⟨hi, h1, h2⟩ := List.findIdx?_eq_some_iff_getElem.1 h
    refine .inr ⟨i, hi, rfl, by simpa using h1, fun j hj => by have := h2 j hj; simpa using this, ?_⟩
    rw [List.find?_eq_some_iff_getElem]
    exact ⟨h1, i, hi, rfl, fun j hj => by have := h2 j hj; simpa using this⟩
theorem drop_at {L : Its} (hn : (L.map (·.2)).Nodup) {k : Int} {i : Nat} (hi : i < L.length) (h : L[i].2 = k) : L.take i ++ L.drop (i + 1) = L.filter fun e => decide (e.2 ≠ k) := by
  have h0 : L = L.take i ++ L[i] :: L.drop (i + 1) := by rw [← List.drop_eq_getElem_cons hi, List.take_append_drop]
  have hn' := hn
  rw [h0, List.map_append, List.map_cons, List.nodup_append] at hn'
  obtain ⟨_, n2, n3⟩ := hn'
  rw [List.nodup_cons] at n2
  conv => rhs; rw [h0]
  rw [List.filter_append, List.filter_cons, if_neg (by simp [h])]
  congr 1
  · symm
    apply List.filter_eq_self.2
    intro e he
    rw [decide_eq_true_eq]
    intro e2
    exact n3 _ (List.mem_map.2 ⟨e, he, rfl⟩) _ (List.mem_cons_self) (by rw [e2, h])
  · symm
    apply List.filter_eq_self.2
    intro e he
    rw [decide_eq_true_eq]
    intro e2
    exact n2.1 (List.mem_map.2 ⟨e, he, by rw [e2, h]⟩)
section
variable {w : World} {F : Fp} {b : Nat} {x : Nat × Its}
theorem RpO.at (h : RpO b w F x) : ∃ p c, Blk w b [.int .i64 x.1, .slice p x.2.length c] 80 ∧ Sl w 82 2 p x.2.length c (x.2.flatMap recII) ∧
    ∀ (j : Nat) (hj : j < x.2.length), ∃ a, p = some a ∧ w.cell? ((a.add (j * 2)).add 0) = some (.int .i64 x.2[j].1) ∧ w.cell? ((a.add (j * 2)).add 1) = some (.int .i64 x.2[j].2) := by
  obtain ⟨⟨p, c⟩, h⟩ := h
  refine ⟨p, c, h.blk, h.sl, fun j hj => ?_⟩
  obtain ⟨a, ha, hc⟩ := h.sl.cells.atk recII_len (by decide) hj
  exact ⟨a, ha, hc 0 _ rfl, hc 1 _ rfl⟩
theorem rpFind_ok (h : RpO b w F x) (hl : x.2.length ≤ 1024) (k : Int) : Calls Tryd.prog 57 #[.pointer (some ⟨b, 0, none⟩), .int .i64 k] w fun e w' => e = .returned (.int .i64 (fI x.2 k)) ∧ w' = w := by
  obtain ⟨p, c, hB, _, hat⟩ := h.at
  refine u57 ?_
  rw [t57]
  refine ⟨WP_loop okProg (M := M57) (σ := Nat) (fun j => e57_1 (some ⟨b, 0, none⟩) k (j : Int)) (fun j w' => j ≤ x.2.length ∧ (∀ i (hi : i < x.2.length), i < j → x.2[i].2 ≠ k) ∧ w' = w) (fun j _ => x.2.length - j) 0 ⟨rfl, rfl, rfl, trivial⟩ ⟨by omega, fun i _ h => by omega, rfl⟩ ?_⟩
  rintro j w' ⟨k1, k2, rfl⟩
  rw [t57_1]
  refine ⟨_, rfl, _, _, _, hB.cell rfl, fun g => ?_, fun g => ?_⟩
  · have hj : j < x.2.length := by simpa using g
    obtain ⟨a, ha, _, hv⟩ := hat j hj
    refine ⟨_, rfl, _, _, _, hB.cell rfl, ⟨by omega, by omega⟩, a, ha, _, hv, fun g2 => ⟨?_, rfl⟩, fun g2 => ⟨j + 1, ⟨rfl, rfl, by rw [w64 (by omega)]; rfl, trivial⟩, ⟨by omega, fun i hi hij => ?_, rfl⟩, by omega⟩⟩
    · have g2 : x.2[j].2 = k := by simpa using g2
      rcases fI_cases x.2 k with ⟨_, f2, _⟩ | ⟨i, hi, f1, f2, f3, _⟩
      · exact absurd g2 (f2 _ (List.getElem_mem hj))
      · rw [f1]
        have : i = j := by
          rcases Nat.lt_trichotomy i j with h | h | h
          · exact absurd f2 (k2 i hi h)
          · exact h
          · exact absurd g2 (f3 j h)
        rw [this]
    · have g2 : x.2[j].2 ≠ k := by simpa using g2
      by_cases hij' : i = j
      · subst hij'; exact g2
      · exact k2 i hi (by omega)
  · have : j = x.2.length := by simp at g; omega
    subst this
    rcases fI_cases x.2 k with ⟨f1, _⟩ | ⟨i, hi, f1, f2, f3, _⟩
    · rw [f1]; exact ⟨rfl, rfl⟩
    · exact absurd f2 (k2 i hi hi)
theorem rpPrio_ok (h : RpO b w F x) (hl : x.2.length ≤ 1024) (k : Int) : Calls Tryd.prog 34 #[.pointer (some ⟨b, 0, none⟩), .int .i64 k] w fun e w' => e = .returned (.tuple #[.int .i64 (prioE x k).1, .bool (prioE x k).2]) ∧ w' = w := by
  obtain ⟨p, c, hB, _, hat⟩ := h.at
  refine u34 ?_
  rw [t34]
  refine ⟨(rpFind_ok h hl k).mono ?_⟩
  rintro e w1 ⟨rfl, rfl⟩
  unfold prioE
  rcases fI_cases x.2 k with ⟨f1, f2, f3⟩ | ⟨i, hi, f1, f2, f3, f4⟩
  · rw [f1, f3]
    exact ⟨_, rfl, fun _ => ⟨rfl, rfl⟩, fun g => by simp at g⟩
  · rw [f1, f4]
    obtain ⟨a, ha, hv, _⟩ := hat i hi
    exact ⟨_, rfl, fun g => absurd (of_decide_eq_true g) (by omega), fun _ => ⟨_, rfl, _, _, _, hB.cell rfl, ⟨by omega, by omega⟩, a, ha, _, hv, rfl, rfl⟩⟩
/-- One more record behind the others. -/
theorem RpH.more {p : Option Addr} {c : Nat} (h : RpH b w F (x, (p, c))) (hl : x.2.length ≤ 1024) {e : Int × Int} {w1 : World} {T' : TypeId} (hN : Newed w w1 (.cells (List.toArray [.int .i64 e.1, .int .i64 e.2]) T' (0, 0))) :
    ∃ p' c' w2, (Builtin.append_ #[78, 78] 78 #[.slice p x.2.length c, .slice (some ⟨w.heap.size, 0, none⟩) 1 1]).run Tryd.prog w1 = .ok (.slice p' (x.2.length + 1) c') w2 ∧
      ∀ K : World → Prop, (∀ w', Turn (RpO b) w w' F (x.1, x.2 ++ [e]) → K w') → Wr w2 ((⟨b, 0, none⟩ : Addr).add 1) [.slice p' (x.2.length + 1) c'] K := by
  obtain ⟨p', c', w2, hr, hS, hU, hF⟩ := appendR elIt (v := recII e) (recII_one e) rfl h.sl (by simp only; omega) (by simp only; omega) hN 78
  refine ⟨p', c', w2, hr, fun K hK => ?_⟩
  refine (h.blkU hU).wr (by simp) fun w3 hW => hK w3 ?_
  obtain ⟨F', q1, q2, q3⟩ := h.put (s' := (x.1, x.2 ++ [e])) (p' := p') (c' := c') (by simp only [List.length_append, List.length_singleton, List.flatMap_append, List.flatMap_cons, List.flatMap_nil, List.append_nil]; exact hS) hU hF (by simp only [List.length_append, List.length_singleton]; exact hW)
  exact ⟨F', ⟨_, q1⟩, q2, q3⟩
theorem rpPush_ok (h : RpO b w F x) (hl : x.2.length ≤ 1024) (p k : Int) : Calls Tryd.prog 52 #[.pointer (some ⟨b, 0, none⟩), .int .i64 p, .int .i64 k] w fun e w' => e = .returned (.int .i64 (pqPushE x p k)) ∧ Turn (RpO b) w w' F (pqPushS x p k) := by
  refine u52 ?_
  rw [t52]
  unfold pqPushS pqPushE
  refine ⟨fun g1 => ⟨fun g2 => ?_, fun g2 => ⟨(rpFind_ok h hl k).mono ?_⟩⟩, fun g1 => ?_⟩
  · have g2 := of_decide_eq_true g2
    rw [if_pos (.inr g2)]
    exact ⟨rfl, Turn.same h⟩
  · have g1 := of_decide_eq_false g1
    have g2 := of_decide_eq_false g2
    rw [if_neg (by omega)]
    rintro e w1 ⟨rfl, rfl⟩
    refine ⟨_, rfl, fun g3 => ?_, fun g3 => ?_⟩
    · have g3 := of_decide_eq_true g3
      rcases fI_cases x.2 k with ⟨f1, _⟩ | ⟨i, hi, f1, f2, _⟩
      · omega
      · rw [if_pos (inE_at hi f2)]
        exact ⟨rfl, Turn.same h⟩
    · have g3 := of_decide_eq_false g3
      have f2 : inE x k = false := by
        rcases fI_cases x.2 k with ⟨_, f2, _⟩ | ⟨i, hi, f1, _⟩
        · exact inE_no f2
        · omega
      rw [f2, if_neg (by simp)]
      intro w2 q1 q2 q3 q4
      have hU := Upd.same no q1 q2 q3 q4
      have hT : ∀ {w' s'}, Turn (RpO b) w2 w' F s' → Turn (RpO b) w1 w' F s' := fun hT => Turn.next ((Frame.rp b).upd h hU (fun _ _ h => h)) hU.none (fun _ h => .inl h) hT
      obtain ⟨⟨p1, c1⟩, h2⟩ := (Frame.rp b).upd h hU (fun _ _ h => h)
      have hB := h2.blk
      simp only at hB
      refine ⟨_, rfl, _, _, _, hB.cell rfl, _, rfl, _, hB.cell rfl, fun g4 => ?_, fun g4 => ?_⟩
      · have g4 := of_decide_eq_true g4
        rw [if_pos (by omega)]
        exact ⟨rfl, Turn.quiet h hU⟩
      · have g4 := of_decide_eq_false g4
        rw [if_neg (by omega), if_pos rfl]
        refine ⟨_, rfl, _, _, _, hB.cell rfl, ⟨fun w3 hN => ?_⟩⟩
        obtain ⟨p', c', w4, hr, hput⟩ := RpH.more (e := (p, k)) h2 hl hN
        exact ⟨p', _, c', w4, hr, _, rfl, hput _ fun w5 ht => ⟨rfl, hT ht⟩⟩
  · have g1 := of_decide_eq_true g1
    rw [if_pos (.inl g1)]
    exact ⟨rfl, Turn.same h⟩
theorem rpDrop_ok (h : RpO b w F x) (hl : x.2.length ≤ 1024) (hn : (x.2.map (·.2)).Nodup) (k : Int) : Calls Tryd.prog 56 #[.pointer (some ⟨b, 0, none⟩), .int .i64 k] w fun e w' => e = .returned (.int .i64 (pqDropE x k)) ∧ Turn (RpO b) w w' F (if inE x k then pqDropS x k else x) := by
  refine u56 ?_
  rw [t56]
  refine ⟨(rpFind_ok h hl k).mono ?_⟩
  rintro e w1 ⟨rfl, rfl⟩
  unfold pqDropE pqDropS
  rcases fI_cases x.2 k with ⟨f1, f2, f3⟩ | ⟨i, hi, f1, f2, f3, f4⟩
  · rw [f1, inE_no f2]
    exact ⟨_, rfl, fun _ => ⟨rfl, Turn.same h⟩, fun g => by simp at g⟩
  · rw [f1, inE_at hi f2]
    obtain ⟨⟨p, c⟩, hR⟩ := id h
    have hB := hR.blk
    have hS := hR.sl
    simp only at hB hS
    have hc : x.2.length ≤ c := hS.2.1
    obtain ⟨hc1, _, _, hn1⟩ := Sl.part recII_len hS (k := i) (by omega)
    have hlt : (x.2.take i).length = i := by simp; omega
    obtain ⟨p1, c1, w2, hr, hL⟩ := (LocR.nil (f := recII) (sz := 2) (Upd.refl no w1) 82).more elIt recII_len recII_one hc1 (d := c) hn1 (by simp; omega) (by simp; omega) 78
    rw [List.nil_append] at hr hL
    rw [hlt] at hr
    have hB2 := hB.upd hL.U (fun h => h)
    have hS2 := hS.upd hL.U (fun _ _ h => h)
    obtain ⟨_, hc2, hn2, _⟩ := Sl.part recII_len hS2 (k := i + 1) (by omega)
    obtain ⟨p3, c3, w3, hr3, hL3⟩ := hL.more elIt recII_len recII_one hc2 (d := c - (i + 1)) hn2 (by simp; omega) (by simp; omega) 78
    rw [drop_at hn hi f2] at hr3 hL3
    rw [hlt, List.length_drop] at hr3
    have ew : IntKind.wrap .i64 ((i : Int) + 1) = ((i + 1 : Nat) : Int) := by rw [w64 (by omega)]; omega
    refine ⟨_, rfl, fun g => absurd (of_decide_eq_true g) (by omega), fun _ => ?_⟩
    rw [ew]
    refine ⟨_, rfl, _, _, _, hB.cell rfl, ⟨by omega, by omega⟩, p1, _, c1, w2, hr, _, rfl, _, _, _, hB2.cell rfl, ⟨by omega, by omega⟩, p3, _, c3, w3, hr3, _, rfl, ?_⟩
    have hB3 := hB.upd hL3.U (fun h => h)
    refine hB3.wr (by simp) fun w4 hW => ⟨rfl, ?_⟩
    obtain ⟨F', q1, q2, q3⟩ := hR.put (s' := (x.1, x.2.filter fun e => decide (e.2 ≠ k))) (p' := p3) (c' := c3) hL3.S hL3.U.none (fun i hi => .inr (hL3.F i hi)) hW
    exact ⟨F', ⟨_, q1⟩, q2, q3⟩
theorem rpBack_ok (h : RpO b w F x) (hl : x.2.length ≤ 1024) (hn : (x.2.map (·.2)).Nodup) (k : Int) : Calls Tryd.prog 55 #[.pointer (some ⟨b, 0, none⟩), .int .i64 k] w fun e w' => e = .returned (.int .i64 (pqBackE x k)) ∧ Turn (RpO b) w w' F (pqBackS x k) := by
  refine u55 ?_
  rw [t55]
  refine ⟨(rpPrio_ok h hl k).mono ?_⟩
  rintro e w1 ⟨rfl, rfl⟩
  have h2 : (prioE x k).2 = inE x k := by
    unfold prioE
    rcases fI_cases x.2 k with ⟨f1, f2, f3⟩ | ⟨i, hi, f1, f2, f3, f4⟩
    · rw [f3, inE_no f2]
    · rw [f4, inE_at hi f2]
  rw [pqBackE, pqDropE, pqBackS, h2]
  cases hk : inE x k with
  | false => exact ⟨_, _, rfl, fun _ => ⟨rfl, Turn.same h⟩, fun g => by simp at g⟩
  | true =>
    refine ⟨_, _, rfl, fun g => by simp at g, fun _ => ⟨(rpDrop_ok h hl hn k).mono ?_⟩⟩
    rintro e w2 ⟨rfl, F3, h3, u3, f3⟩
    rw [hk, if_pos rfl] at h3
    have hl3 : (pqDropS x k).2.length ≤ 1024 := Nat.le_trans (List.length_filter_le _ _) hl
    obtain ⟨⟨p1, c1⟩, hR⟩ := h3
    have hB := hR.blk
    simp only at hB
    refine ⟨_, rfl, _, rfl, _, _, _, hB.cell rfl, ⟨fun w3 hN => ?_⟩⟩
    obtain ⟨p', c', w4, hr, hput⟩ := RpH.more (e := ((prioE x k).1, k)) hR hl3 hN
    exact ⟨p', _, c', w4, hr, _, rfl, hput _ fun w5 ht => ⟨rfl, Turn.glue (Upd.refl _ _) u3 f3 ht⟩⟩

theorem rpList_ok (h : RpO b w F x) (hl : x.2.length ≤ 1024) : Calls Tryd.prog 40 #[.pointer (some ⟨b, 0, none⟩)] w fun e w' => ∃ p c, e = .returned (.slice p (listOf x.2).length c) ∧ Loc w w' 3 p c (listOf x.2) := by
  refine u40 ?_
  rw [t40]
  refine ⟨WP_loop okProg (M := M40) (σ := Nat × Option Addr × Nat) (fun s => e40_1 (some ⟨b, 0, none⟩) s.2.1 (lO x.2 s.1).length s.2.2 (7 - (s.1 : Int))) (fun s w' => s.1 ≤ 8 ∧ Loc w w' 3 s.2.1 s.2.2 (lO x.2 s.1)) (fun s _ => 8 - s.1) (0, none, 0) ⟨rfl, rfl, rfl, trivial⟩ ⟨by omega, Loc.nil (Upd.refl _ _) _⟩ ?_⟩
  rintro ⟨j, p1, c1⟩ w2 ⟨j1, hL⟩
  simp only at j1 hL ⊢
  rw [t40_1]
  refine ⟨fun g => ?_, fun g => ?_⟩
  · have hj : j < 8 := by have := of_decide_eq_true g; omega
    refine ⟨WP_loop okProg (M := M40) (σ := Nat × Option Addr × Nat) (fun s => e40_3 (some ⟨b, 0, none⟩) s.2.1 (lO x.2 j ++ lvIds (x.2.take s.1) (7 - j)).length s.2.2 (7 - (j : Int)) (s.1 : Int)) (fun s w' => s.1 ≤ x.2.length ∧ Loc w w' 3 s.2.1 s.2.2 (lO x.2 j ++ lvIds (x.2.take s.1) (7 - j))) (fun s _ => x.2.length - s.1) (0, p1, c1) ⟨rfl, (by rw [List.take_zero, show lvIds [] (7 - j) = [] from rfl, List.append_nil]; rfl), rfl, rfl, trivial⟩ ⟨by omega, by simpa [lvIds] using hL⟩ ?_⟩
    clear hL
    rintro ⟨i, p2, c2⟩ w3 ⟨i1, hL⟩
    simp only at i1 hL ⊢
    rw [t40_3]
    have h3 : RpO b w3 F x := (Frame.rp b).upd h hL.U fun _ _ h => h
    obtain ⟨p, c, hB, _, hat⟩ := h3.at
    refine ⟨_, rfl, _, _, _, hB.cell rfl, fun g2 => ?_, fun g2 => ?_⟩
    · have hi : i < x.2.length := by simpa using g2
      obtain ⟨a, ha, hv1, hv2⟩ := hat i hi
      have e1 : lvIds (x.2.take (i + 1)) (7 - j) = lvIds (x.2.take i) (7 - j) ++ if x.2[i].1 = ((7 - j : Nat) : Int) then [x.2[i].2] else [] := by
        rw [List.take_succ_eq_append_getElem hi]
        exact lv_push _ _ _ _
      have hb : (lO x.2 j ++ lvIds (x.2.take i) (7 - j)).length ≤ 1048576 := by
        have k1 := lO_len x.2 j
        have k2 := lvI_len (x.2.take i) (7 - j)
        have k3 : j * x.2.length ≤ 8 * 1024 := Nat.mul_le_mul (by omega) hl
        rw [List.length_append]
        simp at k2
        omega
      refine ⟨_, rfl, _, _, _, hB.cell rfl, ⟨by omega, by omega⟩, a, ha, _, hv1, fun g3 => ?_, fun g3 => ?_⟩
      · have g3 : x.2[i].1 = ((7 - j : Nat) : Int) := by have := eq_of_beq g3; omega
        rw [if_pos g3] at e1
        refine ⟨_, rfl, _, _, _, hB.cell rfl, ⟨by omega, by omega⟩, a, ha, _, hv2, ⟨fun w4 hN => ?_⟩⟩
        obtain ⟨p', c', w5, hr, hL'⟩ := hL.push elI hb hN 39
        rw [List.append_assoc, ← e1] at hr hL'
        exact ⟨p', _, c', w5, hr, (i + 1, p', c'), ⟨rfl, rfl, rfl, by rw [w64 (by omega)]; rfl, trivial⟩, ⟨by simp only; omega, hL'⟩, by simp only; omega⟩
      · have g3 : ¬ x.2[i].1 = ((7 - j : Nat) : Int) := by have := ne_of_beq_false g3; omega
        rw [if_neg g3, List.append_nil] at e1
        exact ⟨(i + 1, p2, c2), ⟨rfl, by rw [e1]; rfl, rfl, by rw [w64 (by omega)]; rfl, trivial⟩, ⟨by simp only; omega, by rw [e1]; exact hL⟩, by simp only; omega⟩
    · have : i = x.2.length := by simp at g2; omega
      subst this
      rw [List.take_length, ← lO_succ] at hL ⊢
      exact ⟨(j + 1, p2, c2), ⟨rfl, rfl, by rw [w64 (by omega), show (7 - (j : Int) - 1) = 7 - ((j + 1 : Nat) : Int) by omega]; rfl, trivial⟩, ⟨by simp only; omega, hL⟩, by simp only; omega⟩
  · have : j = 8 := by have := of_decide_eq_false g; omega
    subst this
    exact ⟨p1, c1, rfl, hL⟩
theorem rpTop_ok (h : RpO b w F x) (hl : x.2.length ≤ 1024) : Calls Tryd.prog 53 #[.pointer (some ⟨b, 0, none⟩)] w fun e w' => e = .returned (.tuple #[.int .i64 (topE x).1, .int .i64 (topE x).2]) ∧ Upd no w w' := by
  refine u53 ?_
  rw [t53]
  refine ⟨(rpList_ok h hl).mono ?_⟩
  rintro e w1 ⟨p, c, rfl, hL⟩
  unfold topE
  have hc := hL.S.cells
  have hU := hL.U
  clear hL
  revert hc
  generalize listOf x.2 = l
  intro hc
  cases l with
  | nil => exact ⟨_, _, _, rfl, fun _ => ⟨rfl, hU⟩, fun g => by simp at g⟩
  | cons v l =>
    obtain ⟨a, ha, hv⟩ := hc.at1 (i := 0) (by simp)
    exact ⟨_, _, _, rfl, fun g => by simp at g; omega, fun _ => ⟨⟨by omega, by simp⟩, a, ha, _, hv, rfl, hU⟩⟩
theorem rpTurn_ok (h : RpO b w F x) (hl : x.2.length ≤ 1024) (hn : (x.2.map (·.2)).Nodup) : Calls Tryd.prog 54 #[.pointer (some ⟨b, 0, none⟩)] w fun e w' => e = .returned (.int .i64 (pqTurnE x)) ∧ Turn (RpO b) w w' F (pqTurnS x) := by
  refine u54 ?_
  rw [t54]
  refine ⟨(rpTop_ok h hl).mono ?_⟩
  rintro e w1 ⟨rfl, hU⟩
  rw [pqTurnS, pqTurnE]
  have h1 : RpO b w1 F x := (Frame.rp b).upd h hU fun _ _ h => h
  refine ⟨_, _, rfl, fun g => ?_, fun g => ⟨(rpBack_ok h1 hl hn _).mono ?_⟩⟩
  · have g : (topE x).2 ≠ 0 := by simpa using g
    rw [if_neg g]
    exact ⟨rfl, Turn.quiet h hU⟩
  · have g : (topE x).2 = 0 := by simpa using g
    rintro e w2 ⟨rfl, hT⟩
    rw [if_pos g, g]
    have hin : inE x (topE x).1 = true := by
      unfold topE at g ⊢
      cases hlist : listOf x.2 with
      | nil => rw [hlist] at g; simp at g
      | cons v t =>
        have : v ∈ listOf x.2 := by rw [hlist]; simp
        obtain ⟨i, _, hv⟩ := List.mem_flatMap.1 this
        exact in_iff.2 ⟨_, lv_mem.1 hv⟩
    exact ⟨_, rfl, by rw [pqBackE, pqDropE, hin]; rfl, Turn.next h1 hU.none (fun _ h => .inl h) hT⟩
theorem rpNew_ok (n : Int) (w : World) : Calls Tryd.prog 28 #[.int .i64 n] w fun e w' =>
    (¬ okP9 n ∧ e = .returned (.tuple #[.pointer none, .int .i64 2]) ∧ w' = w) ∨
    (okP9 n ∧ ∃ b F, e = .returned (.tuple #[.pointer (some ⟨b, 0, none⟩), .int .i64 0]) ∧ RpO b w' F (n.toNat, []) ∧ Upd no w w' ∧ ∀ i, F i → w.heap.size ≤ i) := by
  refine u28 ?_
  rw [t28]
  unfold okP9
  refine ⟨fun h1 => ⟨fun h2 => .inl ⟨?_, rfl, rfl⟩, fun h2 => ⟨fun w2 hN => .inr ⟨?_, w.heap.size, fun i => i = w.heap.size, rfl, ⟨(none, 0), ?_⟩, hN.upd no, fun i hi => Nat.le_of_eq hi.symm⟩⟩⟩, fun h1 => .inl ⟨?_, rfl, rfl⟩⟩
  · simp at h2; omega
  · simp at h1 h2; omega
  · have h1 : 0 ≤ n := by simp at h1; omega
    exact Hd.nil hN (by simp only; rw [Int.toNat_of_nonneg h1]; rfl) rfl rfl
  · simp at h1; omega
end
end Go.Dav
