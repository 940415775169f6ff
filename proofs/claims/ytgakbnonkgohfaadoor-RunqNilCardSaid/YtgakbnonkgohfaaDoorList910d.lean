/- All, in order. -/
import Derived.Stop.RegionWithIn
import Derived.Test.YtgakbnonkgohfaaDoorTop910d
set_option linter.unusedSimpArgs false
set_option linter.unusedVariables false
namespace Go.Dav
open Go.Proofs
section
variable {w w' : World} {T : TypeId} {sz : Nat} {p : Option Addr} {n c : Nat} {cs : List Value} {row : Option Nat}
theorem Sl.isc (h : Sl w T sz p n c cs) {k : Nat} (hk : fpS p k) {o : Obj} (ho : w.heap[k]? = some o) : o.isCells = true := by
  obtain ⟨a, rfl, rfl⟩ := hk
  obtain ⟨_, _, _, cells, hb, _⟩ := h
  have := hb.symm.trans ho
  cases this
  rfl
theorem Sl.grown (h : Sl w T sz p n c cs) (hg : w.grownBy w' row) (hr : ∀ r, row = some r → ∃ o : Obj, w.heap[r]? = some o ∧ o.isCells = false) : Sl w' T sz p n c cs :=
  h.upd (F := fun i => row = some i) ⟨hg.size, hg.os, hg.tape, hg.output, fun i hi hF => hg.block i hi (fun e => hF e.symm)⟩ (fun i hi e => by obtain ⟨o, ho, hc⟩ := hr i e; rw [h.isc hi ho] at hc; cases hc)
theorem Upd.others (h : Upd no w w') : KeepsOthers w w' := ⟨h.size, fun k _ hk _ => (h.blk k (lt_of_blk hk) id).trans hk⟩
theorem Sl.others (h : Sl w T sz p n c cs) (k : Upd (fpS p) w w') : KeepsOthers w w' :=
  ⟨k.size, fun i _ hi ho => (k.blk i (lt_of_blk hi) (fun hf => by rw [h.isc hf hi] at ho; cases ho)).trans hi⟩
theorem upd_setCell (w : World) (b o : Nat) (v : Value) : Upd (fun i => i = b) w (w.setCell ⟨b, o, none⟩ v) :=
  ⟨by show _ ≤ (Array.modify _ _ _).size; rw [Array.size_modify]; exact Nat.le_refl _, rfl, rfl, rfl, fun i hi hn => by
    simp only [World.setCell, Array.getElem?_modify]
    rw [if_neg (by omega)]⟩
end
end Go.Dav
namespace Go.Proofs
open Go.RowKit Go.Shelf Go.Dav
attribute [local go_sem] Oper.semAt_some
attribute [-go_sem] Builtin.append_
set_option maxRecDepth 100000 in
set_option maxHeartbeats 4000000 in
theorem Tryd.list_in {α : Type} (bl : α → Nat) (it : α → List Int) (L : List α) (hL : L.length = 8) (q : Nat) (w : World) (hq : q < w.heap.size) {z : List Value} (he : ElemT Tryd.prog 39 3 1 8 z)
    (hc : ∀ i v, L[i]? = some v → w.cell? ⟨q, i, none⟩ = some (.pointer (some ⟨bl v, 0, none⟩))) (hit : ∀ x, (it x).length ≤ 1024)
    (hlist : ∀ x W, Upd no w W → Calls Tryd.prog 59 #[.pointer (some ⟨bl x, 0, none⟩)] W fun e w' => ∃ p c, e = .returned (.slice p (it x).length c) ∧ Dav.Loc W w' 3 p c (it x)) :
    Calls Tryd.prog 38 #[.pointer (some ⟨q, 0, none⟩)] w fun e w' =>
      ∃ p c, e = .returned (.slice p (L.reverse.flatMap it).length c) ∧ Dav.Loc w w' 3 p c (L.reverse.flatMap it) := by
  rw [← callsIn_wide (n := 5)]
  refine callsIn_of_wp_marks Tryd.func38 rfl trivial ?_ rfl
  simp only [Tryd.ntmps38, List.size_toArray, List.length_cons, List.length_nil, Nat.reduceAdd, Nat.reduceSub, Array.replicate_succ, Array.replicate_zero, List.push_toArray, List.append_toArray, List.nil_append, List.cons_append]
  have h1 : Fence.wide.fn 58 := trivial
  have h2 : Fence.wide.fn 59 := trivial
  have h3 : Fence.wide.fn 69 := trivial
  gi_wp2_with (gi_at_call 58; refine (Tryd.down_in Fence.wide _ h1 rfl _ _).mono ?_; rintro e w' ⟨rfl, rfl⟩)
  have c0 := cell_new_l w (.slice none 0 0) 39
  have c2 := cell_new_l (w.alloc (.cells #[.slice none 0 0] 39)) (.pointer (some ⟨q, 0, none⟩)) 55
  simp only [World.size_alloc] at c2
  have hU : Upd no w ((w.alloc (.cells #[.slice none 0 0] 39)).alloc (.cells #[.pointer (some ⟨q, 0, none⟩)] 55)) := (Upd.allocd w _).trans (Upd.allocd _ _) (fun _ _ h => h)
  refine wpIn_rangeFunc_ownF rfl (by decide) (gf := 69) (lb := #[.pointer (some ⟨w.heap.size + 1, 0, none⟩)]) rfl h3 (enters_of Tryd.func69 (by kernel_rfl) rfl)
    (Tryd.down_stops (fun x => .pointer (some ⟨bl x, 0, none⟩)) Fence.wide _ h3 rfl (by decide) (w.heap.size + 1) q L hL _ (by simp) (by simp; omega) c2.1 (fun i v h => hU.cells_old (hc i v h))) Keep2.t (Keep2.b (by simp) (by simp; omega)) (Below.refl _ _) (fun _ => rfl)
    (fun pre W => Upd no w W ∧ ∃ p c, (W.cell? ⟨w.heap.size, 0, none⟩ = some (.slice p (pre.flatMap it).length c) ∧ W.frozen? ⟨w.heap.size, 0, none⟩ = false) ∧ Sl W 3 1 p (pre.flatMap it).length c ((pre.flatMap it).map (Value.int .i64)) ∧ w.heap.size + 1 < W.heap.size ∧ ∀ i, fpS p i → w.heap.size + 1 < i)
    (fun _ _ _ => False)
    ?own (fun _ _ _ _ _ h _ _ => h.elim) ?start
    (fun x => { tmps := #[.pointer (some ⟨q, 0, none⟩), undef, .slice none 0 0, .pointer (some ⟨w.heap.size, 0, none⟩), .pointer (some ⟨bl x, 0, none⟩), .pointer (some ⟨q, 0, none⟩), .bool false, .pointer (some ⟨q, 0, none⟩), .func (.func 69) #[] #[.pointer (some ⟨w.heap.size + 1, 0, none⟩)], .pointer (some ⟨bl x, 0, none⟩), undef, undef, undef, undef, undef], defers := [] }) ?assign ?body ?done ?stop
  case own =>
    rintro s A B row ⟨h1, p, c, h3, h4, h6, h5⟩ hg hr
    have hr' : ∀ r, row = some r → ∃ o : Obj, A.heap[r]? = some o ∧ o.isCells = false := fun r e => (hr r e).2
    exact ⟨h1.grown hg (fun r e => by have := (hr r e).1; simp at this; omega), p, c, ⟨cell_kept h3.1 hg hr', (frozen_kept h3.1 hg hr').trans h3.2⟩, h4.grown hg hr', Nat.lt_of_lt_of_le h6 hg.size, h5⟩
  case start =>
    exact ⟨hU, none, 0, ⟨cell_alloc_l _ c0.1, frozen_alloc_l _ c0.1 c0.2⟩, Sl.nil _ _ _, by simp, fun i ⟨a, ha, _⟩ => by cases ha⟩
  case assign =>
    intro l x W K hK
    gi_wp2
    exact hK
  case body =>
    rintro l pre x W ⟨hW, p, c, ⟨hca, hfa⟩, hS, hKp, hF⟩ hlt
    have hle : (pre.flatMap it).length ≤ 8192 := by
      have : ∀ l : List α, (l.flatMap it).length ≤ 1024 * l.length := fun l => by
        induction l with
        | nil => simp
        | cons a l ih => rw [List.flatMap_cons, List.length_append, List.length_cons]; have := hit a; omega
      have := this pre
      omega
    have hix := hit x
    obtain ⟨lp, hlp⟩ : ∃ lp, pre.flatMap it = lp := ⟨_, rfl⟩
    rw [hlp] at hca hS hle
    have hm : Tryd.prog.follows .mixedOrders = true := by kernel_rfl
    have hWd : Upd no w W.drew := hW.trans (Upd.same no rfl rfl rfl rfl) (fun _ _ h => h)
    have hcd : W.drew.cell? ⟨w.heap.size, 0, none⟩ = some (.slice p lp.length c) := hca
    have hfd : W.drew.frozen? ⟨w.heap.size, 0, none⟩ = false := hfa
    have hSd : Sl W.drew 3 1 p lp.length c (lp.map (Value.int .i64)) := hS.upd (Upd.same no rfl rfl rfl rfl) (fun _ _ h => h)
    gi_wp2
    gi_region_with (gi_at_call 59; refine (callsIn_round (hlist x _ hWd)).mono ?_; rintro e w2 ⟨p2, c2, rfl, hL2⟩; have hS2 := hSd.upd hL2.U (fun _ _ h => h); have hcl := hL2.U.cells_old hcd; have hlw : w.heap.size < W.drew.heap.size := (cells_of_cell hcd).elim (fun _ h => lt_of_blk h.1); have hlw2 := Nat.lt_of_lt_of_le hlw hL2.U.size; have hfl : w2.frozen? ⟨w.heap.size, 0, none⟩ = false := (World.frozen?_of_block (a := ⟨w.heap.size, 0, none⟩) (hL2.U.blk _ hlw id)).trans hfd; obtain ⟨p', n', c', w3, hr, hn3, hS3, hU3, hF3⟩ := run_append he hS2 hL2.S.cells (m := (it x).length) (d := c2) (by simp) (by simp [Value.oneCell']) (fun e => by have := hL2.S.2.2.2; subst e; exact this.2) (by omega) (by omega) 39; have hb3 : w3.heap[w.heap.size]? = w2.heap[w.heap.size]? := hU3.blk _ hlw2 (fun h => by have := hF _ h; omega); have hc3 := (World.cell?_of_block (a := ⟨w.heap.size, 0, none⟩) hb3).trans hcl; have hf3 : w3.frozen? ⟨w.heap.size, 0, none⟩ = false := (World.frozen?_of_block (a := ⟨w.heap.size, 0, none⟩) hb3).trans hfl)
    all_goals
      subst hn3
      have hUa : Upd no W w2 := (Upd.same (w := W) (w' := W.drew) no rfl rfl rfl rfl).trans hL2.U (fun _ _ h => h)
      have hw2 : w.heap.size + 1 < w2.heap.size := Nat.lt_of_lt_of_le hKp hUa.size
      have hsl : ∀ i, fpS p' i → w.heap.size + 1 < i := fun i hi => (hF3 i hi).elim (hF i) (fun h => by omega)
      have hU3' : Upd no w w3 := (hW.trans hUa (fun _ _ h => h)).trans hU3 (fun i hi h => by have := hF i h; omega)
      refine ⟨(hUa.others.trans (hS2.others hU3)).trans (KeepsOthers.setCell _ _ _), ⟨?_, ?_⟩, hU3'.stored (Nat.le_refl _) _ _, p', c', ⟨?_, ?_⟩, ?_, by have := hU3.size; have := (upd_setCell w3 w.heap.size 0 (.slice p' (lp.length + (it x).length) c')).size; omega, hsl⟩
      · exact ((upd_setCell w3 _ 0 _).blk _ (by have := hU3.size; omega) (by omega)).trans ((hU3.blk _ (by omega) (fun h => by have := hF _ h; omega)).trans (hUa.blk _ (by have := hL2.U.size; exact hKp) id))
      · exact ((upd_setCell w3 _ 0 _).blk _ (by have := hU3.size; omega) (by omega)).trans ((hU3.blk _ (by omega) (fun h => by have := hF _ h; omega)).trans (hUa.blk _ (by have := hW.size; omega) id))
      · rw [List.flatMap_append, hlp, List.flatMap_singleton, List.length_append]
        exact World.cell?_setCell_same' _ _ _ (by rw [hc3]; rfl)
      · rw [World.frozen?_setCell]; exact hf3
      · rw [List.flatMap_append, hlp, List.flatMap_singleton, List.length_append, List.map_append]
        exact hS3.upd (upd_setCell w3 _ 0 _) (fun i hi e => by have := hsl i hi; omega)
  case done =>
    rintro D ys W hD rfl ⟨hW, p, c, ⟨hca, hfa⟩, hS, _, hF⟩ hK
    obtain ⟨l0, hl0⟩ : ∃ l0, L.reverse.flatMap it = l0 := ⟨_, rfl⟩
    rw [hl0] at hca hS
    gi_wp2
    refine ⟨by simp, .inl ⟨_, _, rfl, run_takeDeferred hK, ?_⟩⟩
    rw [hl0]
    refine ⟨_, results_tmp rfl _ _ _, p, c, rfl, ?_⟩
    have hg := grownBy_putObj' W D (.deferred none)
    exact ⟨hW.grown hg (fun r e => by cases e; simp at hD; omega), hS.grown hg (fun r e => by cases e; exact ⟨_, hK, rfl⟩), fun i hi => by have := hF i hi; omega⟩
  case stop =>
    rintro D c pre W hD hpre h
    exact h.elim
end Go.Proofs
