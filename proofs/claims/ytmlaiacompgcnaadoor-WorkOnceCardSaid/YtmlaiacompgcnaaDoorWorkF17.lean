/- What the functions of works that are queued come to. -/
import Derived.Test.YtmlaiacompgcnaaDoorWork17
set_option linter.unusedVariables false
set_option linter.unusedSimpArgs false
set_option linter.unusedSectionVars false
namespace Go.Dav
open Go.Proofs
section
variable {w : World} {F : Fp} {b : Nat} {x : WS} {Q : QL} {o : List Bool} {g : (Int → Option Int) × Nat}
theorem WkO.slot (h : WkO b w F x) : ∃ b2 b3 F1, SlO b2 w F1 x.1 ∧ (∃ p c, Blk w b (wkE b2 b3 p x.2.2.length c) 52) ∧ ∀ w' o', Turn (SlO b2) w w' F1 o' → Turn (WkO b) w w' F (o', x.2) := by
  obtain ⟨b2, b3, h⟩ := h
  obtain ⟨F2, h2, _⟩ := h.right
  obtain ⟨F1, h1, k⟩ := h.left
  obtain ⟨F3, h3, k3⟩ := h1.left
  obtain ⟨p, c, hB⟩ := h2.blk
  rw [List.length_map] at hB
  refine ⟨b2, b3, F3, h3, ⟨p, c, hB⟩, fun w' o' hT => ?_⟩
  obtain ⟨F', q1, q2⟩ := k _ _ (k3 _ _ hT)
  exact ⟨F', ⟨b2, b3, q1⟩, q2⟩
theorem WkO.mp (h : WkO b w F x) : ∃ b2 b3 F1, MapO b3 (Value.int .i64) w F1 x.2.1 ∧ (∃ p c, Blk w b (wkE b2 b3 p x.2.2.length c) 52) ∧ ∀ w' g', Turn (MapO b3 (Value.int .i64)) w w' F1 g' → Turn (WkO b) w w' F (x.1, g', x.2.2) := by
  obtain ⟨b2, b3, h⟩ := h
  obtain ⟨F2, h2, _⟩ := h.right
  obtain ⟨F1, h1, k⟩ := h.left
  obtain ⟨F3, h3, k3⟩ := h1.right
  obtain ⟨p, c, hB⟩ := h2.blk
  rw [List.length_map] at hB
  refine ⟨b2, b3, F3, h3, ⟨p, c, hB⟩, fun w' o' hT => ?_⟩
  obtain ⟨F', q1, q2⟩ := k _ _ (k3 _ _ hT)
  exact ⟨F', ⟨b2, b3, q1⟩, q2⟩
theorem WkO.q (h : WkO b w F x) {i : Nat} (hi : i < x.2.2.length) : ∃ b2 b3 a c bi F1, Blk w b (wkE b2 b3 (some a) x.2.2.length c) 52 ∧ w.cell? (a.add (i * 1)) = some (.pointer (some ⟨bi, 0, none⟩)) ∧ FqO bi w F1 (q32 x.2.2[i]) ∧
    ∀ w' l', Turn (FqO bi) w w' F1 (q32 l') → Turn (WkO b) w w' F (x.1, x.2.1, x.2.2.set i l') := by
  obtain ⟨b2, b3, h⟩ := h
  obtain ⟨F2, h2, k⟩ := h.right
  obtain ⟨a, c, bi, F1, hB, hc, hq, ht⟩ := h2.at (i := i) (by simpa using hi)
  simp only [List.length_map] at hB
  simp only [List.getElem_map] at hq
  refine ⟨b2, b3, a, c, bi, F1, hB, hc, hq, fun w' l' hT => ?_⟩
  obtain ⟨F', q1, q2⟩ := k _ _ (ht _ _ hT)
  refine ⟨F', ⟨b2, b3, ?_⟩, q2⟩
  simp only [List.map_set]
  exact q1
theorem pushS_q (l : List Int) (n : Int) : pushS (q32 l) n = q32 (pushS (q32 l) n).2 := by unfold pushS; split <;> rfl

theorem wmay_ok (h : WkI b w F Q) (cpu : Int) (f : Int) : Calls Tryd.prog 28 #[.pointer (some ⟨b, 0, none⟩), .int .i64 cpu, .int .i64 f] w fun e w' => e = .returned (.int .i64 (if inW Q cpu f then 0 else 3)) ∧ w' = w := by
  obtain ⟨o, g, h, hI⟩ := h
  have hp := hI.pos
  simp only at hp
  refine u28 ?_
  rw [t28]
  obtain ⟨b2, b3, F1, _, ⟨p, c, hB⟩, _⟩ := h.slot
  have e1 : IntKind.wrap .i64 ((Q.length : Int) - 1) = (Q.length : Int) - 1 := w64 (by omega)
  refine ⟨fun g => by simp at g, fun _ => ⟨fun g => ⟨_, rfl, _, _, _, hB.cell rfl, fun g2 => ⟨?_, rfl⟩, fun g2 => ⟨?_, rfl⟩⟩, fun g => ⟨?_, rfl⟩⟩⟩
  · simp only [e1] at g2
    rw [if_neg]; unfold inW; simp at g g2; omega
  · simp only [e1] at g2
    rw [if_pos]; unfold inW; simp at g g2; omega
  · rw [if_neg]; unfold inW; simp at g; omega
theorem wmayNil_ok (cpu f : Int) (w : World) : Calls Tryd.prog 28 #[.pointer none, .int .i64 cpu, .int .i64 f] w fun e w' => e = .returned (.int .i64 1) ∧ w' = w := by
  refine u28 ?_
  rw [t28]
  exact ⟨fun _ => ⟨rfl, rfl⟩, fun g => by simp at g⟩
theorem wlist_ok {b2 b3 c bi i n : Nat} {a : Addr} (hB : Blk w b (wkE b2 b3 (some a) n c) 52) (hc : w.cell? (a.add (i * 1)) = some (.pointer (some ⟨bi, 0, none⟩))) (hi : i < n) (hn : n ≤ 1000) :
    Calls Tryd.prog 29 #[.pointer (some ⟨b, 0, none⟩), .int .i64 ((i : Int) - 1)] w fun e w' => e = .returned (.pointer (some ⟨bi, 0, none⟩)) ∧ w' = w := by
  refine u29 ?_
  rw [t29]
  have e1 : IntKind.wrap .i64 ((i : Int) - 1 - (-1)) = (i : Int) := by rw [w64 (by omega)]; omega
  rw [e1]
  exact ⟨_, rfl, _, _, _, hB.cell rfl, ⟨by omega, by omega⟩, a, rfl, _, hc, rfl, rfl⟩
theorem whP_eq (Q : QL) (v : Int) : whP Q v = (((whE Q v).map id).getD 0, (whE Q v).isSome) := by unfold whP; cases whE Q v <;> rfl
theorem wwhere_ok (h : WkI b w F Q) (v : Int) : Calls Tryd.prog 10 #[.pointer (some ⟨b, 0, none⟩), .int .i64 v] w fun e w' => e = .returned (.tuple #[.int .i64 (whP Q v).1, .bool (whP Q v).2]) ∧ w' = w := by
  obtain ⟨o, g, h, hI⟩ := h
  refine u10 ?_
  rw [t10]
  obtain ⟨b2, b3, F1, hm, ⟨p, c, hB⟩, _⟩ := h.mp
  refine ⟨fun g => by simp at g, fun _ => ⟨_, rfl, _, hB.cell rfl, ?_⟩⟩
  have hr := run_lookup mpT hm v true
  have hv := hI.map v
  simp only at hv hr
  rw [hv] at hr
  unfold whP
  cases hw : whE Q v with
  | none => rw [hw] at hr; exact ⟨_, _, hr, rfl, rfl⟩
  | some c => rw [hw] at hr; exact ⟨_, _, hr, rfl, rfl⟩
theorem wwhereNil_ok (v : Int) (w : World) : Calls Tryd.prog 10 #[.pointer none, .int .i64 v] w fun e w' => e = .returned (.tuple #[.int .i64 0, .bool false]) ∧ w' = w := by
  refine u10 ?_
  rw [t10]
  exact ⟨fun _ => ⟨rfl, rfl⟩, fun g => by simp at g⟩
theorem whas_ok (h : WkI b w F Q) (v : Int) : Calls Tryd.prog 12 #[.pointer (some ⟨b, 0, none⟩), .int .i64 v] w fun e w' => e = .returned (.bool (whP Q v).2) ∧ w' = w := by
  refine u12 ?_
  rw [t12]
  refine ⟨(wwhere_ok h v).mono ?_⟩
  rintro e w1 ⟨rfl, rfl⟩
  exact ⟨_, _, rfl, rfl, rfl⟩
theorem whasNil_ok (v : Int) (w : World) : Calls Tryd.prog 12 #[.pointer none, .int .i64 v] w fun e w' => e = .returned (.bool false) ∧ w' = w := by
  refine u12 ?_
  rw [t12]
  refine ⟨(wwhereNil_ok v w).mono ?_⟩
  rintro e w1 ⟨rfl, rfl⟩
  exact ⟨_, _, rfl, rfl, rfl⟩

theorem wls_ok (h : WkI b w F Q) (cpu : Int) : Calls Tryd.prog 14 #[.pointer (some ⟨b, 0, none⟩), .int .i64 cpu] w fun e w' => ∃ p c, e = .returned (.slice p (lsE Q cpu).length c) ∧ Cells w' p ((lsE Q cpu).map (Value.int .i64)) ∧ Upd no w w' := by
  refine u14 ?_
  rw [t14]
  refine ⟨(wmay_ok h cpu (-1)).mono ?_⟩
  rintro e w1 ⟨rfl, rfl⟩
  refine ⟨_, rfl, fun g => ?_, fun g => ?_⟩
  · have hn : ¬ inW Q cpu (-1) := fun h => by rw [if_pos h] at g; simp at g
    rw [lsE, if_neg hn]
    exact ⟨none, 0, rfl, Cells.nil _ _, Upd.refl _ _⟩
  · have hc : inW Q cpu (-1) := Classical.byContradiction fun h => by rw [if_neg h] at g; simp at g
    rw [lsE, if_pos hc]
    obtain ⟨i, hi, rfl, hix⟩ := inW_at hc (by omega)
    rw [rowW_at hi]
    obtain ⟨o, g, h, hI⟩ := h
    obtain ⟨b2, b3, a, c, bi, F4, hB, hc4, hq, htq⟩ := h.q (i := i) hi
    have hp := hI.pos
    simp only at hp hB
    refine ⟨(wlist_ok hB hc4 hi (by omega)).mono ?_⟩
    rintro e w2 ⟨rfl, rfl⟩
    refine ⟨_, rfl, ⟨(qlist_ok hq).mono ?_⟩⟩
    rintro e w3 ⟨p, c, rfl, hC, hU3⟩
    exact ⟨_, _, _, rfl, _, _, rfl, hC, hU3⟩
theorem wlsNil_ok (cpu : Int) (w : World) : Calls Tryd.prog 14 #[.pointer none, .int .i64 cpu] w fun e w' => e = .returned (.slice none 0 0) ∧ w' = w := by
  refine u14 ?_
  rw [t14]
  refine ⟨(wmayNil_ok cpu (-1) w).mono ?_⟩
  rintro e w1 ⟨rfl, rfl⟩
  exact ⟨_, rfl, fun g => ⟨rfl, rfl⟩, fun g => by simp at g⟩
theorem wload_ok (h : WkI b w F Q) (cpu : Int) : Calls Tryd.prog 16 #[.pointer (some ⟨b, 0, none⟩), .int .i64 cpu] w fun e w' => e = .returned (.int .i64 ((lsE Q cpu).length : Int)) ∧ Upd no w w' := by
  refine u16 ?_
  rw [t16]
  refine ⟨(wls_ok h cpu).mono ?_⟩
  rintro e w1 ⟨p, c, rfl, _, hU⟩
  exact ⟨_, _, _, rfl, rfl, hU⟩
theorem wloadNil_ok (cpu : Int) (w : World) : Calls Tryd.prog 16 #[.pointer none, .int .i64 cpu] w fun e w' => e = .returned (.int .i64 0) ∧ w' = w := by
  refine u16 ?_
  rw [t16]
  refine ⟨(wlsNil_ok cpu w).mono ?_⟩
  rintro e w1 ⟨rfl, rfl⟩
  exact ⟨_, _, _, rfl, rfl, rfl⟩

theorem wdrop_ok (h : WkI b w F Q) (v : Int) : Calls Tryd.prog 20 #[.pointer (some ⟨b, 0, none⟩), .int .i64 v] w fun e w' => e = .returned (.int .i64 (dpE Q v)) ∧ Turn (WkI b) w w' F (dpS Q v) := by
  refine u20 ?_
  rw [t20]
  refine ⟨(wwhere_ok h v).mono ?_⟩
  rintro e w1 ⟨rfl, rfl⟩
  refine ⟨_, _, rfl, fun g => by simp at g, fun _ => ⟨fun g1 => ?_, fun g1 => ?_⟩⟩
  · have hn : whE Q v = none := by unfold whP at g1; cases hw : whE Q v with | none => rfl | some c => rw [hw] at g1; simp at g1
    rw [dpE, dpS, hn]
    exact ⟨rfl, Turn.same h⟩
  · obtain ⟨o, g, h, hI⟩ := h
    rcases wh_cases (show once Q from hI.one) v with ⟨k1, _⟩ | ⟨i, hi, hv, k1, _⟩
    · unfold whP at g1; rw [k1] at g1; simp at g1
    · rw [dpE, dpS, whP, k1]
      simp only
      rw [ix_of, rowW_at hi]
      have hID := hI.drop hi hv
      have hp := hI.pos
      simp only at hp
      obtain ⟨b2, b3, F1, hm, ⟨p, c, hB⟩, hmt⟩ := h.mp
      obtain ⟨w2, hr, hT⟩ := run_del mpT hm v 3 0
      obtain ⟨F2, q1, q2, q3⟩ := hmt _ _ hT
      obtain ⟨b2', b3', F3, hs, ⟨p', c', hB'⟩, hst⟩ := q1.slot
      refine ⟨_, rfl, _, hB.cell rfl, w2, hr, _, rfl, _, hB'.cell rfl, ⟨(slGive_ok hs v).mono ?_⟩⟩
      rintro e w3 ⟨rfl, hT3⟩
      obtain ⟨F4, r1, r2, r3⟩ := hst _ _ hT3
      obtain ⟨b2, b3, a, c, bi, F5, hB, hc4, hq, htq⟩ := r1.q (i := i) hi
      simp only at hB
      refine ⟨_, rfl, ⟨(wlist_ok hB hc4 hi (by omega)).mono ?_⟩⟩
      rintro e w4 ⟨rfl, rfl⟩
      refine ⟨_, rfl, ⟨(qdrop_ok hq v).mono ?_⟩⟩
      rintro e w5 ⟨rfl, hT5⟩
      have e1 : dropE (q32 Q[i]) v = 0 := by unfold dropE q32; rw [if_pos hv]
      refine ⟨_, rfl, by rw [e1], ?_⟩
      have h7 := htq _ _ hT5
      exact Turn.wki (Turn.next q1 q2 q3 (Turn.next r1 r2 r3 h7)) hID
theorem wdropNil_ok (v : Int) (w : World) : Calls Tryd.prog 20 #[.pointer none, .int .i64 v] w fun e w' => e = .returned (.int .i64 1) ∧ w' = w := by
  refine u20 ?_
  rw [t20]
  refine ⟨(wwhereNil_ok v w).mono ?_⟩
  rintro e w1 ⟨rfl, rfl⟩
  exact ⟨_, _, rfl, fun _ => ⟨rfl, rfl⟩, fun g => by simp at g⟩

theorem wqueue_ok (h : WkI b w F Q) (hTab : Tab w) (cpu : Int) : Calls Tryd.prog 17 #[.pointer (some ⟨b, 0, none⟩), .int .i64 cpu] w fun e w' => e = .returned (.tuple #[.int .i64 (quE Q cpu).1, .int .i64 (quE Q cpu).2]) ∧ Turn (WkI b) w w' F (quS Q cpu) := by
  refine u17 ?_
  rw [t17]
  refine ⟨(wmay_ok h cpu (-1)).mono ?_⟩
  rintro e w1 ⟨rfl, rfl⟩
  refine ⟨_, rfl, fun g => ?_, fun g => ?_⟩
  · have hn : ¬ inW Q cpu (-1) := fun h => by rw [if_pos h] at g; simp at g
    rw [quE, quS, if_neg hn, if_neg hn, if_neg hn]
    exact ⟨rfl, Turn.same h⟩
  · have hc : inW Q cpu (-1) := Classical.byContradiction fun h => by rw [if_neg h] at g; simp at g
    rw [quE, quS, if_pos hc, if_pos hc]
    obtain ⟨i, hi, rfl, hix⟩ := inW_at hc (by omega)
    rw [rowW_at hi, ix_of]
    obtain ⟨o, g, h, hI⟩ := h
    have hp := hI.pos
    simp only at hp
    obtain ⟨b2, b3, F1, hs, ⟨p, c, hB⟩, hst⟩ := h.slot
    refine ⟨_, rfl, _, hB.cell rfl, ⟨(slTake_ok hTab hs).mono ?_⟩⟩
    rintro e w2 ⟨rfl, hT⟩
    obtain ⟨F2, q1, q2, q3⟩ := hst _ _ hT
    rcases freeId_take hI with ⟨j, f1, f2⟩ | ⟨f1, f2, f3⟩
    · obtain ⟨hIQ, hnot, hj⟩ := hI.queue hi f2
      obtain ⟨p1, p2⟩ := hI.push hi (v := (j : Int) + 1) (by omega) hnot
      simp only [f1, f2]
      obtain ⟨b2', b3', F3, hm, ⟨p', c', hB'⟩, hmt⟩ := q1.mp
      obtain ⟨w3, hr, hT3⟩ := run_put mpT hm ((j : Int) + 1) ((i : Int) - 1)
      obtain ⟨F4, r1, r2, r3⟩ := hmt _ _ hT3
      obtain ⟨b2, b3, a, c, bi, F5, hB, hc4, hq, htq⟩ := r1.q (i := i) hi
      simp only at hB
      refine ⟨_, _, rfl, fun g => by simp at g, fun _ => ⟨_, rfl, _, hB'.cell rfl, w3, hr, ⟨(wlist_ok hB hc4 hi (by omega)).mono ?_⟩⟩⟩
      rintro e w4 ⟨rfl, rfl⟩
      refine ⟨_, rfl, ⟨(qpush_ok hq _).mono ?_⟩⟩
      rintro e w5 ⟨rfl, hT5⟩
      simp only [p1, p2] at hT5 ⊢
      have h7 := htq _ _ hT5
      exact ⟨_, rfl, rfl, Turn.wki (Turn.next q1 q2 q3 (Turn.next r1 r2 r3 h7)) hIQ⟩
    · simp only [f1, f2]
      rw [f3] at q1
      exact ⟨_, _, rfl, fun _ => ⟨rfl, Turn.wki ⟨F2, q1, q2, q3⟩ hI⟩, fun g => by simp at g⟩
theorem wqueueNil_ok (cpu : Int) (w : World) : Calls Tryd.prog 17 #[.pointer none, .int .i64 cpu] w fun e w' => e = .returned (.tuple #[.int .i64 0, .int .i64 1]) ∧ w' = w := by
  refine u17 ?_
  rw [t17]
  refine ⟨(wmayNil_ok cpu (-1) w).mono ?_⟩
  rintro e w1 ⟨rfl, rfl⟩
  exact ⟨_, rfl, fun g => ⟨rfl, rfl⟩, fun g => by simp at g⟩

theorem wunbind_ok (h : WkI b w F Q) (cpu : Int) : Calls Tryd.prog 19 #[.pointer (some ⟨b, 0, none⟩), .int .i64 cpu] w fun e w' => e = .returned (.tuple #[.int .i64 (unE Q cpu).1, .int .i64 (unE Q cpu).2]) ∧ Turn (WkI b) w w' F (unS Q cpu) := by
  refine u19 ?_
  rw [t19]
  refine ⟨(wmay_ok h cpu 0).mono ?_⟩
  rintro e w1 ⟨rfl, rfl⟩
  refine ⟨_, rfl, fun g => ?_, fun g => ?_⟩
  · have hn : ¬ inW Q cpu 0 := fun h => by rw [if_pos h] at g; simp at g
    rw [unE, unS, if_neg hn, if_neg hn, if_neg hn]
    exact ⟨rfl, Turn.same h⟩
  · have hc : inW Q cpu 0 := Classical.byContradiction fun h => by rw [if_neg h] at g; simp at g
    rw [unE, unS, if_pos hc, if_pos hc]
    obtain ⟨i, hi, rfl, hix⟩ := inW_at hc (by omega)
    have h0 : 0 < i := by unfold inW at hc; omega
    rw [rowW_at hi, ix_of]
    obtain ⟨o, g, h, hI⟩ := h
    have hp := hI.pos
    simp only at hp
    obtain ⟨b2, b3, a, c, bi, F1, hB, hc4, hq, htq⟩ := h.q (i := i) hi
    simp only at hB hq htq
    refine ⟨(wlist_ok hB hc4 hi (by omega)).mono ?_⟩
    rintro e w2 ⟨rfl, rfl⟩
    refine ⟨_, rfl, ⟨(qpop_ok hq).mono ?_⟩⟩
    rintro e w3 ⟨rfl, hT⟩
    obtain ⟨F2, q1, q2, q3⟩ := htq _ _ hT
    cases hl : Q[i] with
    | nil =>
      have e2 : Q.set i [] = Q := by rw [← hl, List.set_getElem_self]
      simp only [q32, hl, List.tail_nil, e2] at q1
      exact ⟨_, _, rfl, fun _ => ⟨rfl, Turn.wki ⟨F2, q1, q2, q3⟩ hI⟩, fun g => by simp [frontE, q32] at g⟩
    | cons v l =>
      obtain ⟨hIU, hnot, hr⟩ := hI.unbind hi h0 hl
      simp only [q32, hl, List.tail_cons] at q1
      have hz : 0 < Q.length := by omega
      have e0 : rowW Q (-1) = Q[0] := rowW_at (i := 0) hz
      obtain ⟨p1, p2⟩ := hI.push hz hr hnot
      simp only [e0]
      obtain ⟨b2', b3', F3, hm, ⟨p', c', hB'⟩, hmt⟩ := q1.mp
      obtain ⟨w4, hrn, hT3⟩ := run_put mpT hm v (-1)
      obtain ⟨F4, r1, r2, r3⟩ := hmt _ _ hT3
      have hz2 : 0 < (Q.set i l).length := by simpa using hz
      obtain ⟨b2, b3, a, c, bi, F5, hB, hc4, hq, htq⟩ := r1.q (i := 0) hz2
      simp only [List.length_set] at hB
      have hrow : (Q.set i l)[0] = Q[0] := List.getElem_set_ne (by omega) hz2
      simp only [hrow] at hq
      refine ⟨_, _, rfl, fun g => by simp [frontE, q32] at g, fun _ => ⟨_, rfl, _, hB'.cell rfl, w4, hrn, ⟨(wlist_ok hB hc4 hz (by omega)).mono ?_⟩⟩⟩
      rintro e w5 ⟨rfl, rfl⟩
      refine ⟨_, rfl, ⟨(qpush_ok hq _).mono ?_⟩⟩
      rintro e w6 ⟨rfl, hT5⟩
      have hfr : (frontE (32, v :: l)).1 = v := rfl
      simp only [q32] at p1 p2 hT5 ⊢
      simp only [hfr, p1, p2] at hT5 ⊢
      have h7 := htq _ _ hT5
      exact ⟨_, rfl, rfl, Turn.wki (Turn.next q1 q2 q3 (Turn.next r1 r2 r3 h7)) hIU⟩
theorem wunbindNil_ok (cpu : Int) (w : World) : Calls Tryd.prog 19 #[.pointer none, .int .i64 cpu] w fun e w' => e = .returned (.tuple #[.int .i64 0, .int .i64 1]) ∧ w' = w := by
  refine u19 ?_
  rw [t19]
  refine ⟨(wmayNil_ok cpu 0 w).mono ?_⟩
  rintro e w1 ⟨rfl, rfl⟩
  exact ⟨_, rfl, fun g => ⟨rfl, rfl⟩, fun g => by simp at g⟩

theorem dp_head {i : Nat} (hO : once Q) (hi : i < Q.length) {v : Int} (hv : v ∈ Q[i]) : dpE Q v = 0 := by rw [dpE, wh_in hO hi hv]
theorem wtake_ok (h : WkI b w F Q) (cpu : Int) : Calls Tryd.prog 18 #[.pointer (some ⟨b, 0, none⟩), .int .i64 cpu] w fun e w' => e = .returned (.tuple #[.int .i64 (taE Q cpu).1, .int .i64 (taE Q cpu).2]) ∧ Turn (WkI b) w w' F (taS Q cpu) := by
  refine u18 ?_
  rw [t18]
  refine ⟨(wmay_ok h cpu 0).mono ?_⟩
  rintro e w1 ⟨rfl, rfl⟩
  refine ⟨_, rfl, fun g => ?_, fun g => ⟨fun w2 hN => ?_⟩⟩
  · have hn : ¬ inW Q cpu 0 := fun h => by rw [if_pos h] at g; simp at g
    rw [taE, taS, if_neg hn, if_neg hn, if_neg hn]
    exact ⟨rfl, Turn.same h⟩
  · have hc : inW Q cpu 0 := Classical.byContradiction fun h => by rw [if_neg h] at g; simp at g
    rw [taE, taS, if_pos hc, if_pos hc]
    have hU := hN.upd no
    have hC : Cells w2 (some ⟨w1.heap.size, 0, none⟩) (([cpu, -1] : List Int).map (Value.int .i64)) := (Sl.new (n := 2) (sz := 1) hN (by simp) (by decide)).cells
    have h2 : WkI b w2 F Q := (Frame.wki b).upd h hU (fun _ _ h => h)
    refine ⟨WP_loop okProg (M := M18) (σ := Nat) (fun j => e18_1 (some ⟨b, 0, none⟩) (some ⟨w1.heap.size, 0, none⟩) 2 2 2 (j : Int)) (fun j w' => j ≤ 2 ∧ Upd no w2 w' ∧ (1 ≤ j → rowW Q cpu = []) ∧ (2 ≤ j → rowW Q (-1) = [])) (fun j _ => 2 - j) 0 ⟨rfl, rfl, rfl, rfl, trivial⟩ ⟨by omega, Upd.refl _ _, fun h => by omega, fun h => by omega⟩ ?_⟩
    rintro j w3 ⟨j1, hU3, k1, k2⟩
    rw [t18_1]
    have h3 : WkI b w3 F Q := (Frame.wki b).upd h2 hU3 (fun _ _ h => h)
    have hUw : Upd no w1 w3 := hU.and hU3
    refine ⟨fun g => ?_, fun g => ?_⟩
    · have hj : j < 2 := by simp at g; omega
      obtain ⟨a0, ha0, hc0⟩ := (hC.no hU3).at1 (i := j) (l := ([cpu, -1] : List Int)) (by simp; omega)
      obtain ⟨i, hi, hcpu, hix⟩ := inW_at hc (by omega)
      subst hcpu
      have hz : 0 < Q.length := by omega
      have ei := rowW_at hi
      have e0 : rowW Q (-1) = Q[0] := rowW_at (i := 0) hz
      rw [ei, e0]
      rw [ei] at k1
      rw [e0] at k2
      obtain ⟨k, hk, hvk, hcase⟩ : ∃ k : Nat, ∃ hk : k < Q.length, ([(i : Int) - 1, -1] : List Int)[j]'(by simp; omega) = (k : Int) - 1 ∧ ((j = 0 ∧ k = i) ∨ (j = 1 ∧ k = 0)) := by
        have : j = 0 ∨ j = 1 := by omega
        rcases this with rfl | rfl
        · exact ⟨i, hi, rfl, .inl ⟨rfl, rfl⟩⟩
        · exact ⟨0, hz, rfl, .inr ⟨rfl, rfl⟩⟩
      rw [hvk] at hc0
      obtain ⟨o, gm, hk3, hI⟩ := id h3
      have hp := hI.pos
      simp only at hp
      obtain ⟨b2, b3, a, c, bi, F5, hB, hc4, hq, htq⟩ := hk3.q (i := k) hk
      simp only at hB hq
      refine ⟨⟨by omega, by omega⟩, a0, ha0, _, hc0, ⟨(wlist_ok hB hc4 hk (by omega)).mono ?_⟩⟩
      rintro e w4 ⟨rfl, rfl⟩
      refine ⟨_, rfl, ⟨(qfront_ok hq).mono ?_⟩⟩
      rintro e w5 ⟨rfl, hU5⟩
      have h5 : WkI b w5 F Q := (Frame.wki b).upd h3 hU5 (fun _ _ h => h)
      cases hl : Q[k] with
      | nil =>
        refine ⟨_, _, rfl, fun g => by simp [frontE, q32] at g, fun _ => ⟨j + 1, ⟨rfl, rfl, rfl, by rw [w64 (by omega)]; rfl, trivial⟩, ⟨by omega, hU3.and hU5, fun _ => ?_, fun _ => ?_⟩, by omega⟩⟩
        · rcases hcase with ⟨rfl, rfl⟩ | ⟨rfl, rfl⟩
          · exact hl
          · exact k1 (by omega)
        · rcases hcase with ⟨rfl, rfl⟩ | ⟨rfl, rfl⟩
          · omega
          · exact hl
      | cons u l =>
        refine ⟨_, _, rfl, fun _ => ⟨(wdrop_ok h5 _).mono ?_⟩, fun g => by simp [frontE, q32] at g⟩
        have hfr : (frontE (q32 (u :: l))).1 = u := rfl
        rw [hfr, dp_head (show once Q from hI.one) hk (by rw [hl]; simp)]
        rintro e w6 ⟨rfl, hT⟩
        have hTw := Turn.next h5 (hUw.and hU5).none (fun _ h => .inl h) hT
        rcases hcase with ⟨rfl, rfl⟩ | ⟨rfl, rfl⟩
        · rw [hl]
          exact ⟨_, rfl, rfl, hTw⟩
        · rw [k1 (by omega), hl]
          exact ⟨_, rfl, rfl, hTw⟩
    · have : j = 2 := by simp at g; omega
      subst this
      rw [k1 (by omega), k2 (by omega)]
      exact ⟨rfl, F, h3, hUw.none, fun _ h => .inl h⟩

def okC (n : Int) : Prop := 1 ≤ n ∧ n ≤ 64
def newQ (n : Int) : QL := List.replicate (n.toNat + 1) []
theorem WI.new {n : Int} (h : okC n) : WI (List.replicate 32 false, (fun _ => none, 0), newQ n) := by
  have hk : ∀ k, (List.replicate 32 false).getD k false = false := fun k => by
    rw [List.getD_eq_getElem?_getD, List.getElem?_replicate]; split <;> rfl
  unfold okC at h
  refine ⟨by simp, fun v => by simp only [newQ, ct_new]; omega, fun v => ?_, fun v => ?_, by simp [newQ]; omega⟩
  · simp only [newQ, ct_new]
    unfold hasE
    rw [hk]
    simp
  · simp only [newQ]
    rw [wh_no (ct_new _ _)]
theorem wnew_ok (n : Int) (w : World) : Calls Tryd.prog 6 #[.int .i64 n] w fun e w' =>
    (¬ okC n ∧ e = .returned (.tuple #[.pointer none, .int .i64 2]) ∧ w' = w) ∨
    (okC n ∧ ∃ b F, e = .returned (.tuple #[.pointer (some ⟨b, 0, none⟩), .int .i64 0]) ∧ WkI b w' F (newQ n) ∧ Upd no w w' ∧ ∀ i, F i → w.heap.size ≤ i) := by
  refine u6 ?_
  rw [t6]
  refine ⟨fun g1 => ⟨fun g2 => .inl ⟨?_, rfl, rfl⟩, fun g2 => ?_⟩, fun g1 => .inl ⟨?_, rfl, rfl⟩⟩
  · unfold okC; simp at g2; omega
  · have g1 : ¬ n < 1 := by simpa using g1
    have g2 : ¬ 64 < n := by simpa using g2
    obtain ⟨k, rfl⟩ : ∃ k : Nat, n = k := ⟨n.toNat, by omega⟩
    have ek : IntKind.wrap .i64 ((k : Int) + 1) = ((k + 1 : Nat) : Int) := by rw [w64 (by omega)]; omega
    refine ⟨(slNew_ok 32 w).mono ?_⟩
    rintro e w1 hh
    obtain ⟨_, b2, F1, rfl, hQ, hU, hF⟩ := hh.resolve_left (fun h => absurd (by omega) h.1)
    have hM : Mine w w1 (SlO b2) (List.replicate 32 false) := Mine.new (Upd.refl _ _) hU hQ hF
    clear hU hQ hF
    refine ⟨_, _, rfl, fun g => by simp at g, fun _ => ⟨fun w2 hN2 => ⟨fun w3 hN => ?_⟩⟩⟩
    replace hM : Mine w w2 (Star (SlO b2) (MapO w1.heap.size (Value.int .i64))) (List.replicate 32 false, (fun _ => none, 0)) := hM.add (hN2.upd no) (MapO.new hN2) (fun i hi => Nat.le_of_eq hi.symm)
    generalize w1.heap.size = b3 at hM hN ⊢
    replace hM : Mine w w3 (Star (Star (SlO b2) (MapO b3 (Value.int .i64))) (Tq FqO w2.heap.size 52 53 (wkE b2 b3))) ((List.replicate 32 false, (fun _ => none, 0)), []) := hM.add (hN.upd no) (Tq.nil hN rfl) (fun i hi => Nat.le_of_eq hi.symm)
    generalize w2.heap.size = b at hM ⊢
    rw [ek]
    refine ⟨WP_loop okProg (M := M6) (σ := Nat) (fun j => e6_1 (some ⟨b, 0, none⟩) ((k + 1 : Nat) : Int) (j : Int)) (fun j w' => j ≤ k + 1 ∧ Mine w w' (Star (Star (SlO b2) (MapO b3 (Value.int .i64))) (Tq FqO b 52 53 (wkE b2 b3))) ((List.replicate 32 false, (fun _ => none, 0)), List.replicate j (q32 []))) (fun j _ => k + 1 - j) 0 ⟨rfl, rfl, rfl, trivial⟩ ⟨by omega, hM⟩ ?_⟩
    clear hM hN hN2
    rintro j w3 ⟨j1, hM⟩
    rw [t6_1]
    refine ⟨fun g => ?_, fun g => ?_⟩
    · have hj : j < k + 1 := by simp at g; omega
      refine ⟨(new_ok 32 w3).mono ?_⟩
      rintro e w4 hh
      obtain ⟨_, bq, G, rfl, hQ, hU, hG⟩ := hh.resolve_left (fun h => absurd (by omega) h.1)
      obtain ⟨F2, hA, hT⟩ := hM.right
      obtain ⟨p, c, hB, hgo⟩ := Tq.push elQ (k := 1) (fun _ _ _ _ _ _ => rfl) (fun _ _ _ => by simp [wkE]) hA (by simp; omega) hU hQ hG
      refine ⟨_, _, rfl, fun g => by simp at g, fun _ => ⟨_, rfl, _, _, _, hB.cell rfl, ⟨fun w5 hN => ?_⟩⟩⟩
      obtain ⟨p', c', w6, hr, hK⟩ := hgo w5 hN 50
      refine ⟨_, _, _, w6, hr, _, rfl, hK _ fun w7 h7 => ?_⟩
      have h8 := hT _ _ h7
      refine ⟨j + 1, ⟨rfl, rfl, by rw [w64 (by omega)]; rfl, trivial⟩, ⟨by omega, ?_⟩, by omega⟩
      rw [List.replicate_succ' (n := j)]
      exact h8
    · have : j = k + 1 := by simp at g; omega
      subst this
      obtain ⟨F, hF1, hF2, hF3⟩ := hM
      refine .inr ⟨⟨by omega, by omega⟩, b, F, rfl, ⟨_, _, ⟨b2, b3, ?_⟩, WI.new ⟨by omega, by omega⟩⟩, hF2, hF3⟩
      simp only [newQ, List.map_replicate, Int.toNat_natCast]
      exact hF1
  · unfold okC; simp at g1; omega
end
end Go.Dav
