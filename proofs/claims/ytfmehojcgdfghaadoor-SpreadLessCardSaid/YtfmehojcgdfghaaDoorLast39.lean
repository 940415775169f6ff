/- The place of the last thing of a core that may go to another one. -/
import Derived.Test.YtfmehojcgdfghaaDoorBack39
import Derived.Test.YtfmehojcgdfghaaDoorMsk39
set_option linter.unusedSimpArgs false
set_option linter.unusedVariables false
namespace Go.Dav
open Go.Proofs
theorem Upd.grownL {w W W' : World} {row : Option Nat} (h : Upd no w W) (hg : W.grownBy W' row) (hr : ∀ r, row = some r → w.heap.size ≤ r) : Upd no w W' :=
  ⟨Nat.le_trans h.size hg.size, hg.os.trans h.os, hg.tape.trans h.tape, hg.output.trans h.output, fun i hi _ => (hg.block i (Nat.lt_of_lt_of_le hi h.size) (fun e => by have := hr i e.symm; omega)).trans (h.blk i hi id)⟩
theorem Upd.cellsL {w W : World} {a : Addr} {v : Value} (h : Upd no w W) (hc : w.cell? a = some v) : W.cell? a = some v := by
  have hl : a.block < w.heap.size := by
    obtain ⟨o, ho, _⟩ := cells_of_cell hc
    exact lt_of_blk ho
  exact (World.cell?_of_block (h.blk _ hl id)).trans hc
theorem Upd.allocL (w : World) (o : Obj) : Upd no w (w.alloc o) := (Upd.refl no w).grownL (World.grownBy_alloc w o none) (fun r e => by cases e)
theorem Upd.storeL {w W : World} (h : Upd no w W) {b : Nat} (hb : w.heap.size ≤ b) (o : Nat) (v : Value) : Upd no w (W.setCell ⟨b, o, none⟩ v) :=
  ⟨by show _ ≤ (Array.modify _ _ _).size; rw [Array.size_modify]; exact h.size, h.os, h.tape, h.output, fun i hi hn => by
    rw [← h.blk i hi hn]
    simp only [World.setCell, Array.getElem?_modify]
    rw [if_neg (by omega)]⟩
end Go.Dav
namespace Go.Proofs
open Go.RowKit Go.Shelf Go.Dav
attribute [local go_sem] Oper.semAt_some
section
theorem cell_of_boxB {W : World} {B : Nat} {v : Value} {t : TypeId} (h : W.heap[B]? = some (.cells #[v] t (0, 0))) : W.cell? ⟨B, 0, none⟩ = some v ∧ W.frozen? ⟨B, 0, none⟩ = false := by
  constructor <;> simp [World.cell?, World.frozen?, h]
theorem cell_newB (W : World) (v : Value) (t : TypeId) : (W.alloc (.cells #[v] t)).cell? ⟨W.heap.size, 0, none⟩ = some v ∧ (W.alloc (.cells #[v] t)).frozen? ⟨W.heap.size, 0, none⟩ = false :=
  cell_of_boxB (World.alloc_heap_new W _)
theorem cell_allocB {W : World} {a : Addr} {v : Value} (o : Obj) (h : W.cell? a = some v) : (W.alloc o).cell? a = some v := cell_kept h (World.grownBy_alloc W o none) (fun r e => by cases e)
theorem frozen_allocB {W : World} {a : Addr} {v : Value} (o : Obj) (h : W.cell? a = some v) (hf : W.frozen? a = false) : (W.alloc o).frozen? a = false := (frozen_kept h (World.grownBy_alloc W o none) (fun r e => by cases e)).trans hf
theorem callsIn_roundB {n l : Nat} {P : Program} {f : FuncId} {args : Array Value} {w : World} {R : Ending → World → Prop} (h : Calls P f args w R) : CallsIn (Fence.wide.inRound l) n P f args w R := (callsIn_wide (n := n)).2 h
end
/-- May it go? -/
def satL (f t : Int) (x : IX) : Bool := x.2.2.1 == f && hs x.2.2.2 t
/-- The place of the last one that may. -/
def lastP (L : List IX) (f t : Int) : Int := match L.reverse.find? (satL f t) with
  | none => -1
  | some x => (x.1 : Int)
theorem lastP_none {L : List IX} {f t : Int} (h : L.reverse.find? (satL f t) = none) : lastP L f t = -1 := by unfold lastP; rw [h]
theorem lastP_some {L : List IX} {f t : Int} {x : IX} (h : L.reverse.find? (satL f t) = some x) : lastP L f t = (x.1 : Int) := by unfold lastP; rw [h]
set_option maxRecDepth 100000 in
set_option maxHeartbeats 4000000 in
theorem Tryd.last_in (L : List IX) (hL : L.length ≤ 1048576) (hix : ∀ (i : Nat) (v : IX), L[i]? = some v → v.1 = i) (p : Option Addr) (bq o c : Nat) (f t : Int) (w : World) (hbq : bq < w.heap.size)
    (hc : ∀ (i : Nat) (v : IX), L[i]? = some v → p = some ⟨bq, o, none⟩ ∧ ∀ j u, (it3 v.2)[j]? = some u → w.cell? ⟨bq, o + i * 3 + j, none⟩ = some u) :
    Calls Tryd.prog 37 #[.slice p L.length c, .int .i64 f, .int .i64 t] w fun e w' =>
      e = .returned (.int .i64 (lastP L f t)) ∧ Upd no w w' := by
  rw [← callsIn_wide (n := 5)]
  refine callsIn_of_wp_marks Tryd.func37 rfl trivial ?_ rfl
  simp only [Tryd.ntmps37, List.size_toArray, List.length_cons, List.length_nil, Nat.reduceAdd, Nat.reduceSub, Array.replicate_succ, Array.replicate_zero, List.push_toArray, List.append_toArray, List.nil_append, List.cons_append]
  have h1 : Fence.wide.fn 48 := trivial
  have h2 : Fence.wide.fn 25 := trivial
  have h3 : Fence.wide.fn 52 := trivial
  gi_wp2_with (gi_at_call 48; refine (Tryd.back_in Fence.wide _ h1 rfl _ _ _ _).mono ?_; rintro e w' ⟨rfl, rfl⟩)
  obtain ⟨n0, hn0⟩ : ∃ n0, w.heap.size = n0 := ⟨_, rfl⟩
  have hU : Upd no w ((((w.alloc (.cells #[.int .i64 f] 3)).alloc (.cells #[.int .i64 t] 3)).alloc (.cells #[.int .i64 0] 3)).alloc (.cells #[.slice p L.length c] 28)) :=
    (((Upd.allocL w _).trans (Upd.allocL _ _) (fun _ _ h => h)).trans (Upd.allocL _ _) (fun _ _ h => h)).trans (Upd.allocL _ _) (fun _ _ h => h)
  have c0 := cell_newB w (.int .i64 f) 3
  have c1 := cell_newB (w.alloc (.cells #[.int .i64 f] 3)) (.int .i64 t) 3
  have c2 := cell_newB ((w.alloc (.cells #[.int .i64 f] 3)).alloc (.cells #[.int .i64 t] 3)) (.int .i64 0) 3
  have c3 := cell_newB (((w.alloc (.cells #[.int .i64 f] 3)).alloc (.cells #[.int .i64 t] 3)).alloc (.cells #[.int .i64 0] 3)) (.slice p L.length c) 28
  simp only [World.size_alloc, hn0] at c0 c1 c2 c3
  have d0 := cell_allocB (.cells #[.slice p L.length c] 28) (cell_allocB (.cells #[.int .i64 0] 3) (cell_allocB (.cells #[.int .i64 t] 3) c0.1))
  have d1 := cell_allocB (.cells #[.slice p L.length c] 28) (cell_allocB (.cells #[.int .i64 0] 3) c1.1)
  have d2 := cell_allocB (.cells #[.slice p L.length c] 28) c2.1
  have f2 := frozen_allocB (.cells #[.slice p L.length c] 28) c2.1 c2.2
  have hsz : ((((w.alloc (.cells #[.int .i64 f] 3)).alloc (.cells #[.int .i64 t] 3)).alloc (.cells #[.int .i64 0] 3)).alloc (.cells #[.slice p L.length c] 28)).heap.size = n0 + 4 := by simp [hn0]
  simp only [World.size_alloc, hn0]
  generalize ((((w.alloc (.cells #[.int .i64 f] 3)).alloc (.cells #[.int .i64 t] 3)).alloc (.cells #[.int .i64 0] 3)).alloc (.cells #[.slice p L.length c] 28)) = W0 at *
  have c3 := c3.1
  have hc0 : ∀ (i : Nat) (v : IX), L[i]? = some v → p = some ⟨bq, o, none⟩ ∧ ∀ j u, (it3 v.2)[j]? = some u → W0.cell? ⟨bq, o + i * 3 + j, none⟩ = some u := fun i v h => ⟨(hc i v h).1, fun j u hu => hU.cellsL ((hc i v h).2 j u hu)⟩
  refine wpIn_rangeFunc_ownH rfl (by decide) (gf := 52) (lb := #[.pointer (some ⟨n0 + 1 + 1 + 1, 0, none⟩)]) rfl h3 (enters_of Tryd.func52 (by kernel_rfl) rfl)
    (Tryd.back_stops Fence.wide _ h3 rfl (by decide) (n0 + 1 + 1 + 1) bq o c p L hL hix W0 (by omega) (by omega) c3 hc0) KeepB.t (KeepB.b (by omega) (by omega)) (Below.refl _ _) (fun _ => rfl)
    (fun pre W => Upd no w W ∧ (∀ y ∈ pre, satL f t y = false) ∧ W.cell? ⟨n0, 0, none⟩ = some (.int .i64 f) ∧ W.cell? ⟨n0 + 1, 0, none⟩ = some (.int .i64 t) ∧ W.cell? ⟨n0 + 1 + 1, 0, none⟩ = some (.int .i64 0) ∧ W.frozen? ⟨n0 + 1 + 1, 0, none⟩ = false ∧ n0 + 4 ≤ W.heap.size)
    (fun c pre W => c = .ret ∧ Upd no w W ∧ ∃ pr x, pre = pr ++ [x] ∧ (∀ y ∈ pr, satL f t y = false) ∧ satL f t x = true ∧ W.cell? ⟨n0 + 1 + 1, 0, none⟩ = some (.int .i64 (x.1 : Int)))
    ?own ?ownx ?start
    (fun x a' W => ∃ B, n0 + 4 ≤ B ∧ B < W.heap.size ∧ a' = { tmps := #[.slice p L.length c, .int .i64 f, .int .i64 t, undef, .pointer (some ⟨n0, 0, none⟩), .pointer (some ⟨n0 + 1, 0, none⟩), .pointer (some ⟨n0 + 1 + 1, 0, none⟩), .int .i64 (x.1 : Int), .pointer (some ⟨B, 0, none⟩), .slice p L.length c, .func (.func 52) #[] #[.pointer (some ⟨n0 + 1 + 1 + 1, 0, none⟩)], .int .i64 (x.1 : Int), .agg (it3 x.2).toArray, undef, undef, undef, undef, undef, undef, undef, undef, undef, undef, undef], defers := [] } ∧
      W.cell? ⟨B, 0, none⟩ = some (.int .i64 x.2.1) ∧ W.cell? ⟨B, 1, none⟩ = some (.int .i64 x.2.2.1) ∧ W.cell? ⟨B, 2, none⟩ = some (.int .u64 (mi x.2.2.2)))
    ?ownA ?assign ?body ?done ?stop
  case own =>
    rintro s A B row ⟨h1, h2, h3, h4, h5, h6, h7⟩ hg hr
    have hr' : ∀ r, row = some r → ∃ o : Obj, A.heap[r]? = some o ∧ o.isCells = false := fun r e => (hr r e).2
    exact ⟨h1.grownL hg (fun r e => by have := (hr r e).1; omega), h2, cell_kept h3 hg hr', cell_kept h4 hg hr', cell_kept h5 hg hr', (frozen_kept h5 hg hr').trans h6, Nat.le_trans h7 hg.size⟩
  case ownx =>
    rintro c s A B row ⟨h0, h1, pr, x, h2, h3, h4, h5⟩ hg hr
    have hr' : ∀ r, row = some r → ∃ o : Obj, A.heap[r]? = some o ∧ o.isCells = false := fun r e => (hr r e).2
    exact ⟨h0, h1.grownL hg (fun r e => by have := (hr r e).1; omega), pr, x, h2, h3, h4, cell_kept h5 hg hr'⟩
  case start => exact ⟨hU, by simp, d0, d1, d2, f2, by omega⟩
  case ownA =>
    rintro x a' _ A B row ⟨b, h1, h2, h3, h4, h5, h6⟩ hg hr
    have hr' : ∀ r, row = some r → ∃ o : Obj, A.heap[r]? = some o ∧ o.isCells = false := fun r e => (hr r e).2
    exact ⟨b, h1, Nat.lt_of_lt_of_le h2 hg.size, h3, cell_kept h4 hg hr', cell_kept h5 hg hr', cell_kept h6 hg hr'⟩
  case assign =>
    rintro l pre x W K ⟨i1, i2, i3, i4, i5, i6, i7⟩ hK
    have hnew : (W.alloc (.cells #[.int .i64 0, .int .i64 0, .int .u64 0] 59)).heap[W.heap.size]? = some (.cells #[.int .i64 0, .int .i64 0, .int .u64 0] 59 (0, 0)) := World.alloc_heap_new W _
    obtain ⟨W2, hst, hWr⟩ : ∃ W2, (storeCells ⟨W.heap.size, 0, none⟩ (it3 x.2)).run Tryd.prog (W.alloc (.cells #[.int .i64 0, .int .i64 0, .int .u64 0] 59)) = .ok () W2 ∧ Wrote (W.alloc (.cells #[.int .i64 0, .int .i64 0, .int .u64 0] 59)) W2 W.heap.size (it3 x.2) 59 :=
      ⟨_, run_storeCells_at (P := Tryd.prog) W.heap.size 0 59 (it3 x.2) 0 _ _ hnew (by simp [it3, recIIU]) (by intro v hv; simp only [it3, recIIU, List.mem_cons, List.not_mem_nil, or_false] at hv; rcases hv with rfl | rfl | rfl <;> rfl), wrote_setRow hnew _⟩
    have hUW : Upd no W W2 := (Upd.allocL W _).trans (hWr.upd (F := fun i => i = W.heap.size) rfl) (fun i hi e => by omega)
    have hB : ∀ k, k < W.heap.size → W2.heap[k]? = W.heap[k]? := fun k hk => hUW.blk k hk id
    gi_wp2
    refine hK _ W2 ⟨hUW.size, fun k o' _ hk _ => (hB k (lt_of_blk hk)).trans hk⟩ ⟨hB _ (by omega), hB _ (by have := i1.size; omega)⟩ ?_ ⟨W.heap.size, by omega, ?_, rfl, ?_, ?_, ?_⟩
    · exact ⟨i1.trans hUW (fun _ _ h => h), i2, hUW.cellsL i3, hUW.cellsL i4, hUW.cellsL i5, (World.frozen?_of_block (a := ⟨n0 + 1 + 1, 0, none⟩) (hB _ (by simp only; omega))).trans i6, Nat.le_trans i7 hUW.size⟩
    · have := hWr.size; simp at this; omega
    · rw [cell_blk hWr.blk']; rfl
    · rw [cell_blk hWr.blk']; rfl
    · rw [cell_blk hWr.blk']; rfl
  case body =>
    rintro l pre x a' W hl hlr ⟨i1, i2, i3, i4, i5, i6, i7⟩ ⟨B, hB1, hB2, rfl, b0, b1, b2⟩ hlen
    gi_wp2_with (gi_at_call 25; refine (callsIn_roundB (mHas_ok _ _ _)).mono ?_; rintro e w' ⟨rfl, rfl⟩)
    · rename_i g1 g2
      have b3 : w'.cell? ⟨n0 + 1 + 1, 0, none⟩ = some (.int .i64 0) := i5
      exact ⟨((KeepsOthers.setCell _ _ _)).from _, rfl, i1.storeL (by omega) _ _, pre, x, rfl, i2, by simp [satL, g1, g2], World.cell?_setCell_same' _ _ _ (by rw [b3]; rfl)⟩
    · rename_i g1 g2
      exact ⟨KeepsFrom.refl _ _, KeepB.refl _ _ _, i1, fun y hy => (List.mem_append.1 hy).elim (i2 y) (fun e => by simp at e; subst e; simp [satL, g2]), i3, i4, i5, i6, i7⟩
    · rename_i g1
      exact ⟨KeepsFrom.refl _ _, KeepB.refl _ _ _, i1, fun y hy => (List.mem_append.1 hy).elim (i2 y) (fun e => by simp at e; subst e; simp [satL, g1]), i3, i4, i5, i6, i7⟩
  case done =>
    rintro D ys W hD rfl ⟨i1, i2, i3, i4, i5, i6, i7⟩ hK
    gi_wp2
    have hK' := (KeepsOthers.setCell W ⟨n0 + 1 + 1, 0, none⟩ (.int .i64 (-1))).same D _ hK rfl
    refine ⟨by simp, .inl ⟨_, _, rfl, run_takeDeferred hK', ?_⟩⟩
    have hS : Upd no w (W.setCell ⟨n0 + 1 + 1, 0, none⟩ (.int .i64 (-1))) := i1.storeL (by omega) _ _
    have a2 := World.cell?_setCell_same' W ⟨n0 + 1 + 1, 0, none⟩ (.int .i64 (-1)) (by rw [i5]; rfl)
    generalize (W.setCell ⟨n0 + 1 + 1, 0, none⟩ (.int .i64 (-1))) = W2 at *
    have hg := grownBy_putObj' W2 D (.deferred none)
    have hr : ∀ r, some D = some r → ∃ o : Obj, W2.heap[r]? = some o ∧ o.isCells = false := fun r e => by cases e; exact ⟨_, hK', rfl⟩
    have hb := cell_kept a2 hg hr
    have hnone : L.reverse.find? (satL f t) = none := List.find?_eq_none.2 fun y hy => by simp [i2 y hy]
    refine ⟨_, ?_, by rw [lastP_none hnone], hS.grownL hg (fun r e => by cases e; omega)⟩
    simp [results, Tryd.f37, go_sem, hb]
  case stop =>
    rintro D c pre W hD hpre ⟨rfl, i1, pr, x, rfl, hpr, hx, hcb⟩ hK
    gi_wp2
    refine ⟨by simp, .inl ⟨_, _, rfl, run_takeDeferred hK, ?_⟩⟩
    have hg := grownBy_putObj' W D (.deferred none)
    have hr : ∀ r, some D = some r → ∃ o : Obj, W.heap[r]? = some o ∧ o.isCells = false := fun r e => by cases e; exact ⟨_, hK, rfl⟩
    have hb := cell_kept hcb hg hr
    have hsome : L.reverse.find? (satL f t) = some x := by
      obtain ⟨s, hs⟩ := hpre
      rw [← hs, List.append_assoc, List.find?_append, List.find?_eq_none.2 (fun y hy => by simp [hpr y hy])]
      simp [hx]
    refine ⟨_, ?_, by rw [lastP_some hsome], i1.grownL hg (fun r e => by cases e; omega)⟩
    simp [results, Tryd.f37, go_sem, hb]
end Go.Proofs
