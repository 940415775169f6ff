/- The level of the greatest priority that has any. -/
import Derived.Test.YtgakbnonkgohfaaDoorDown10d
import Derived.Test.YtgakbnonkgohfaaDoorOwn
set_option linter.unusedSimpArgs false
set_option linter.unusedVariables false
namespace Go.Dav
open Go.Proofs
theorem Upd.grown {w W W' : World} {row : Option Nat} (h : Upd no w W) (hg : W.grownBy W' row) (hr : ∀ r, row = some r → w.heap.size ≤ r) : Upd no w W' :=
  ⟨Nat.le_trans h.size hg.size, hg.os.trans h.os, hg.tape.trans h.tape, hg.output.trans h.output, fun i hi _ => (hg.block i (Nat.lt_of_lt_of_le hi h.size) (fun e => by have := hr i e.symm; omega)).trans (h.blk i hi id)⟩
theorem Upd.cells_old {w W : World} {a : Addr} {v : Value} (h : Upd no w W) (hc : w.cell? a = some v) : W.cell? a = some v := by
  have hl : a.block < w.heap.size := by
    obtain ⟨o, ho, _⟩ := cells_of_cell hc
    exact lt_of_blk ho
  exact (World.cell?_of_block (h.blk _ hl id)).trans hc
theorem Upd.allocd (w : World) (o : Obj) : Upd no w (w.alloc o) := (Upd.refl no w).grown (World.grownBy_alloc w o none) (fun r e => by cases e)
theorem Upd.stored {w W : World} (h : Upd no w W) {b : Nat} (hb : w.heap.size ≤ b) (o : Nat) (v : Value) : Upd no w (W.setCell ⟨b, o, none⟩ v) :=
  ⟨by show _ ≤ (Array.modify _ _ _).size; rw [Array.size_modify]; exact h.size, h.os, h.tape, h.output, fun i hi hn => by
    rw [← h.blk i hi hn]
    simp only [World.setCell, Array.getElem?_modify]
    rw [if_neg (by omega)]⟩

end Go.Dav
namespace Go.Proofs
open Go.RowKit Go.Shelf Go.Dav
attribute [local go_sem] Oper.semAt_some
theorem cell_of_box_l {W : World} {B : Nat} {v : Value} {t : TypeId} (h : W.heap[B]? = some (.cells #[v] t (0, 0))) : W.cell? ⟨B, 0, none⟩ = some v ∧ W.frozen? ⟨B, 0, none⟩ = false := by
  constructor <;> simp [World.cell?, World.frozen?, h]
theorem cell_new_l (W : World) (v : Value) (t : TypeId) : (W.alloc (.cells #[v] t)).cell? ⟨W.heap.size, 0, none⟩ = some v ∧ (W.alloc (.cells #[v] t)).frozen? ⟨W.heap.size, 0, none⟩ = false :=
  cell_of_box_l (World.alloc_heap_new W _)
theorem cell_alloc_l {W : World} {a : Addr} {v : Value} (o : Obj) (h : W.cell? a = some v) : (W.alloc o).cell? a = some v := cell_kept h (World.grownBy_alloc W o none) (fun r e => by cases e)
theorem frozen_alloc_l {W : World} {a : Addr} {v : Value} (o : Obj) (h : W.cell? a = some v) (hf : W.frozen? a = false) : (W.alloc o).frozen? a = false := (frozen_kept h (World.grownBy_alloc W o none) (fun r e => by cases e)).trans hf

theorem callsIn_round {n l : Nat} {P : Program} {f : FuncId} {args : Array Value} {w : World} {R : Ending → World → Prop} (h : Calls P f args w R) : CallsIn (Fence.wide.inRound l) n P f args w R := (callsIn_wide (n := n)).2 h
def topV {α : Type} (bl : α → Nat) (len : α → Nat) (l : List α) : Value :=
  match l.find? (fun x => decide (0 < len x)) with
  | none => .tuple #[.pointer none, .int .i64 12]
  | some x => .tuple #[.pointer (some ⟨bl x, 0, none⟩), .int .i64 0]
theorem topV_none {α : Type} {bl : α → Nat} {len : α → Nat} {l : List α} (h : ∀ y ∈ l, len y = 0) : topV bl len l = .tuple #[.pointer none, .int .i64 12] := by
  unfold topV
  rw [List.find?_eq_none.2 (fun y hy => by simp [h y hy])]
theorem topV_some {α : Type} {bl : α → Nat} {len : α → Nat} {l pr : List α} {x : α} (hp : pr ++ [x] <+: l) (h : ∀ y ∈ pr, len y = 0) (hx : 0 < len x) : topV bl len l = .tuple #[.pointer (some ⟨bl x, 0, none⟩), .int .i64 0] := by
  obtain ⟨t, rfl⟩ := hp
  unfold topV
  rw [List.append_assoc, List.find?_append, List.find?_eq_none.2 (fun y hy => by simp [h y hy])]
  simp [hx]

set_option maxRecDepth 100000 in
set_option maxHeartbeats 4000000 in
theorem Tryd.top_in {α : Type} (bl : α → Nat) (len : α → Nat) (L : List α) (hL : L.length = 8) (q : Nat) (w : World) (hq : q < w.heap.size)
    (hc : ∀ i v, L[i]? = some v → w.cell? ⟨q, i, none⟩ = some (.pointer (some ⟨bl v, 0, none⟩)))
    (hlen : ∀ x W, Upd no w W → Calls Tryd.prog 72 #[.pointer (some ⟨bl x, 0, none⟩)] W fun e w' => e = .returned (.int .i64 (len x)) ∧ w' = W) :
    Calls Tryd.prog 64 #[.pointer (some ⟨q, 0, none⟩)] w fun e w' =>
      e = .returned (topV bl len L.reverse) ∧ Upd no w w' := by
  rw [← callsIn_wide (n := 5)]
  refine callsIn_of_wp_marks Tryd.func64 rfl trivial ?_ rfl
  simp only [Tryd.ntmps64, List.size_toArray, List.length_cons, List.length_nil, Nat.reduceAdd, Nat.reduceSub, Array.replicate_succ, Array.replicate_zero, List.push_toArray, List.append_toArray, List.nil_append, List.cons_append]
  have h1 : Fence.wide.fn 58 := trivial
  have h2 : Fence.wide.fn 72 := trivial
  have h3 : Fence.wide.fn 69 := trivial
  gi_wp2_with (gi_at_call 58; refine (Tryd.down_in Fence.wide _ h1 rfl _ _).mono ?_; rintro e w' ⟨rfl, rfl⟩)
  have c0 := cell_new_l w (.pointer none) 72
  have c1 := cell_new_l (w.alloc (.cells #[.pointer none] 72)) (.int .i64 0) 25
  have c2 := cell_new_l ((w.alloc (.cells #[.pointer none] 72)).alloc (.cells #[.int .i64 0] 25)) (.pointer (some ⟨q, 0, none⟩)) 55
  simp only [World.size_alloc] at c1 c2
  have hU : Upd no w (((w.alloc (.cells #[.pointer none] 72)).alloc (.cells #[.int .i64 0] 25)).alloc (.cells #[.pointer (some ⟨q, 0, none⟩)] 55)) := (((Upd.allocd w _).trans (Upd.allocd _ _) (fun _ _ h => h)).trans (Upd.allocd _ _) (fun _ _ h => h))
  refine wpIn_rangeFunc_ownF rfl (by decide) (gf := 69) (lb := #[.pointer (some ⟨w.heap.size + 1 + 1, 0, none⟩)]) rfl h3 (enters_of Tryd.func69 (by kernel_rfl) rfl)
    (Tryd.down_stops (fun x => .pointer (some ⟨bl x, 0, none⟩)) Fence.wide _ h3 rfl (by decide) (w.heap.size + 1 + 1) q L hL _ (by simp) (by simp; omega) c2.1 (fun i v h => hU.cells_old (hc i v h))) Keep2.t (Keep2.b (by simp) (by simp; omega)) (Below.refl _ _) (fun _ => rfl)
    (fun pre W => Upd no w W ∧ (∀ y ∈ pre, len y = 0) ∧ (W.cell? ⟨w.heap.size, 0, none⟩ = some (.pointer none) ∧ W.frozen? ⟨w.heap.size, 0, none⟩ = false) ∧ W.cell? ⟨w.heap.size + 1, 0, none⟩ = some (.int .i64 0) ∧ W.frozen? ⟨w.heap.size + 1, 0, none⟩ = false)
    (fun c pre W => c = .ret ∧ Upd no w W ∧ ∃ pr x, pre = pr ++ [x] ∧ (∀ y ∈ pr, len y = 0) ∧ 0 < len x ∧ W.cell? ⟨w.heap.size, 0, none⟩ = some (.pointer (some ⟨bl x, 0, none⟩)) ∧ W.cell? ⟨w.heap.size + 1, 0, none⟩ = some (.int .i64 0))
    ?own ?ownx ?start
    (fun x => { tmps := #[.pointer (some ⟨q, 0, none⟩), undef, .pointer (some ⟨w.heap.size, 0, none⟩), .pointer (some ⟨w.heap.size + 1, 0, none⟩), .pointer (some ⟨bl x, 0, none⟩), .pointer (some ⟨q, 0, none⟩), .bool false, .pointer (some ⟨q, 0, none⟩), .func (.func 69) #[] #[.pointer (some ⟨w.heap.size + 1 + 1, 0, none⟩)], .pointer (some ⟨bl x, 0, none⟩), undef, undef, undef, undef], defers := [] }) ?assign ?body ?done ?stop
  case own =>
    rintro s A B row ⟨h1, h2, h3, h4, h5⟩ hg hr
    have hr' : ∀ r, row = some r → ∃ o : Obj, A.heap[r]? = some o ∧ o.isCells = false := fun r e => (hr r e).2
    exact ⟨h1.grown hg (fun r e => by have := (hr r e).1; simp at this; omega), h2, ⟨cell_kept h3.1 hg hr', (frozen_kept h3.1 hg hr').trans h3.2⟩, cell_kept h4 hg hr', (frozen_kept h4 hg hr').trans h5⟩
  case ownx =>
    rintro c s A B row ⟨h0, h1, pr, x, h2, h3, h4, h5, h6⟩ hg hr
    have hr' : ∀ r, row = some r → ∃ o : Obj, A.heap[r]? = some o ∧ o.isCells = false := fun r e => (hr r e).2
    exact ⟨h0, h1.grown hg (fun r e => by have := (hr r e).1; simp at this; omega), pr, x, h2, h3, h4, cell_kept h5 hg hr', cell_kept h6 hg hr'⟩
  case start =>
    exact ⟨hU, by simp, ⟨cell_alloc_l _ (cell_alloc_l _ c0.1), frozen_alloc_l _ (cell_alloc_l _ c0.1) (frozen_alloc_l _ c0.1 c0.2)⟩, cell_alloc_l _ c1.1, frozen_alloc_l _ c1.1 c1.2⟩
  case assign =>
    intro l x W K hK
    gi_wp2
    exact hK
  case body =>
    rintro l pre x W ⟨hW, hp, ⟨hca, hfa⟩, hcb, hfb⟩ _
    gi_wp2_with (gi_at_call 72; refine (callsIn_round (hlen x W hW)).mono ?_; rintro e w' ⟨rfl, rfl⟩)
    · rename_i hx
      have b0 : (w'.setCell ⟨w.heap.size, 0, none⟩ (.pointer (some ⟨bl x, 0, none⟩))).cell? ⟨w.heap.size + 1, 0, none⟩ = some (.int .i64 0) := (World.cell?_setCell_other _ _ _ _ (by simp)).trans hcb
      exact ⟨(KeepsOthers.setCell _ _ _).trans (KeepsOthers.setCell _ _ _), rfl, (hW.stored (Nat.le_refl _) _ _).stored (Nat.le_succ _) _ _, pre, x, rfl, hp, by simpa using hx,
        (World.cell?_setCell_other _ _ _ _ (by simp)).trans (World.cell?_setCell_same' _ _ _ (by rw [hca]; rfl)), World.cell?_setCell_same' _ _ _ (by rw [b0]; rfl)⟩
    · rename_i hx
      exact ⟨KeepsOthers.refl _, Keep2.refl _ _ _, hW, fun y hy => (List.mem_append.1 hy).elim (hp y) (fun e => by simp at e; subst e; simpa using hx), ⟨hca, hfa⟩, hcb, hfb⟩
  case done =>
    rintro D ys W hD rfl ⟨hW, hne, ⟨hca, hfa⟩, hcb, hfb⟩ hK
    gi_wp2
    have hK' := ((KeepsOthers.setCell W ⟨w.heap.size, 0, none⟩ (.pointer none)).trans (KeepsOthers.setCell _ ⟨w.heap.size + 1, 0, none⟩ (.int .i64 12))).same D _ hK rfl
    refine ⟨by simp, .inl ⟨_, _, rfl, run_takeDeferred hK', ?_⟩⟩
    have hS : Upd no w ((W.setCell ⟨w.heap.size, 0, none⟩ (.pointer none)).setCell ⟨w.heap.size + 1, 0, none⟩ (.int .i64 12)) := (hW.stored (Nat.le_refl _) _ _).stored (Nat.le_succ _) _ _
    have a0 : (W.setCell ⟨w.heap.size, 0, none⟩ (.pointer none)).cell? ⟨w.heap.size + 1, 0, none⟩ = some (.int .i64 0) := (World.cell?_setCell_other _ _ _ _ (by simp)).trans hcb
    have a1 : ((W.setCell ⟨w.heap.size, 0, none⟩ (.pointer none)).setCell ⟨w.heap.size + 1, 0, none⟩ (.int .i64 12)).cell? ⟨w.heap.size, 0, none⟩ = some (.pointer none) := (World.cell?_setCell_other _ _ _ _ (by simp)).trans (World.cell?_setCell_same' W _ _ (by rw [hca]; rfl))
    have a2 := World.cell?_setCell_same' (W.setCell ⟨w.heap.size, 0, none⟩ (.pointer none)) ⟨w.heap.size + 1, 0, none⟩ (.int .i64 12) (by rw [a0]; rfl)
    generalize ((W.setCell ⟨w.heap.size, 0, none⟩ (.pointer none)).setCell ⟨w.heap.size + 1, 0, none⟩ (.int .i64 12)) = W2 at *
    have hg := grownBy_putObj' W2 D (.deferred none)
    have hr : ∀ r, some D = some r → ∃ o : Obj, W2.heap[r]? = some o ∧ o.isCells = false := fun r e => by cases e; exact ⟨_, hK', rfl⟩
    have ha := cell_kept a1 hg hr
    have hb := cell_kept a2 hg hr
    refine ⟨_, ?_, by rw [topV_none hne], hS.grown hg (fun r e => by cases e; simp at hD; omega)⟩
    simp [results, Tryd.f64, go_sem, ha, hb]
  case stop =>
    rintro D c pre W hD hpre ⟨rfl, hW, pr, x, rfl, hpr, hx, hca, hcb⟩ hK
    gi_wp2
    refine ⟨by simp, .inl ⟨_, _, rfl, run_takeDeferred hK, ?_⟩⟩
    have hg := grownBy_putObj' W D (.deferred none)
    have hr : ∀ r, some D = some r → ∃ o : Obj, W.heap[r]? = some o ∧ o.isCells = false := fun r e => by cases e; exact ⟨_, hK, rfl⟩
    have ha := cell_kept hca hg hr
    have hb := cell_kept hcb hg hr
    refine ⟨_, ?_, by rw [topV_some hpre hpr hx], hW.grown hg (fun r e => by cases e; simp at hD; omega)⟩
    simp [results, Tryd.f64, go_sem, ha, hb]
end Go.Proofs
