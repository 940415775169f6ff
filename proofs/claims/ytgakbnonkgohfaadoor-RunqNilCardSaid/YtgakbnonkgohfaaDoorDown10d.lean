/- The range over the levels of a queue by priorities: what the function that 'down' hands back keeps to. -/
import Derived.RangeFuncKeeps
import Derived.RangeFuncLeaves
import Derived.RangeFuncFrom
import Derived.Shelf.Abstract
import Derived.WalkKit
import Derived.OwnWalkIn
import Derived.TacticsInMore
import Derived.LoopNIn
import Derived.LoopIn
import Derived.Test.YtgakbnonkgohfaaDoorPrg10d
set_option linter.unusedSimpArgs false
set_option linter.unusedVariables false
namespace Go.Proofs
open Go.RowKit Go.Shelf
attribute [local go_sem] Oper.semAt_some
/-- The blocks a and b have not turned. -/
def Keep2 (a b : Nat) (W W' : World) : Prop := W'.heap[a]? = W.heap[a]? ∧ W'.heap[b]? = W.heap[b]?
theorem Keep2.t {a b : Nat} {A B C : World} (h : Keep2 a b A B) (k : Keep2 a b B C) : Keep2 a b A C := ⟨k.1.trans h.1, k.2.trans h.2⟩
theorem Keep2.b {a b : Nat} {w : World} (ha : a < w.heap.size) (hb : b < w.heap.size) (W : World) (l : Nat) (o o' : Obj) (hl : w.heap.size ≤ l) (_ : W.heap[l]? = some o) (_ : o.isCells = false) (_ : o.isWalk = false) : Keep2 a b W (W.putObj l o') :=
  ⟨World.putObj_heap_other (by omega), World.putObj_heap_other (by omega)⟩
theorem Keep2.refl (a b : Nat) (W : World) : Keep2 a b W W := ⟨rfl, rfl⟩
theorem Tryd.down1_in {α : Type} (enc : α → Value) (F : Fence) (n : Nat) (h38 : F.fn 69) (hro : F.round = none) (hn : 1 ≤ n) (l Bn bq : Nat) (L : List α) (hL : L.length = 8) (J Jx : List α → World → Prop)
    (hY : ∀ pre x W, J pre W → pre.length < 8 → YieldAt F (n - 1) Tryd.prog l #[enc x] W fun e W' =>
      (e = .returned (.bool true) ∧ J (pre ++ [x]) W' ∧ Keep2 Bn bq W W') ∨ (e = .returned (.bool false) ∧ Jx (pre ++ [x]) W'))
    (W : World) (hBn : W.cell? ⟨Bn, 0, none⟩ = some (.pointer (some ⟨bq, 0, none⟩))) (hc : ∀ i v, L[i]? = some v → W.cell? ⟨bq, i, none⟩ = some (enc v)) (h0 : J [] W) :
    CallsIn F n Tryd.prog 69 #[.func (.yield l) #[] #[], .pointer (some ⟨Bn, 0, none⟩)] W fun e W' => (∃ v, e = .returned v) ∧
      ((∃ ys, ys = L.reverse ∧ J ys W') ∨ (∃ pre, pre <+: L.reverse ∧ Jx pre W')) := by
  refine callsIn_of_wp Tryd.func69 rfl h38 ?_ hro
  simp only [Tryd.ntmps69, List.size_toArray, List.length_cons, List.length_nil, Nat.reduceAdd, Nat.reduceSub, Array.replicate_succ, Array.replicate_zero, List.push_toArray, List.append_toArray, List.nil_append, List.cons_append]
  gi_wp2
  gi_loopw [3] (fun p wr => ∃ (k : Nat), p = .int .i64 ((k : Int) - 1) ∧ k ≤ 8 ∧ wr.cell? ⟨Bn, 0, none⟩ = some (.pointer (some ⟨bq, 0, none⟩)) ∧ (∀ i v, L[i]? = some v → wr.cell? ⟨bq, i, none⟩ = some (enc v)) ∧ J (L.drop k).reverse wr)
    (fun p wr => match p with | .int _ i => (i + 1).toNat | _ => 0)
  case atStart =>
    exact ⟨8, rfl, Nat.le_refl _, hBn, hc, by rw [List.drop_of_length_le (by omega)]; exact h0⟩
  case round =>
    obtain ⟨k, rfl, hk, hB, hC, hJs⟩ := hrel
    cases k with
    | zero =>
      gi_wp2
      go_end0
      exact ⟨⟨_, rfl⟩, .inl ⟨_, by simp, hJs⟩⟩
    | succ k =>
      have hkl : k < L.length := by omega
      have hcell : wr.cell? ⟨bq, k, none⟩ = some (enc L[k]) := hC k _ (List.getElem?_eq_getElem hkl)
      have hdr : L.drop k = L[k] :: L.drop (k + 1) := List.drop_eq_getElem_cons hkl
      have hrv : (L.drop (k + 1)).reverse ++ [L[k]] = (L.drop k).reverse := by rw [hdr, List.reverse_cons]
      obtain ⟨fn, tmps, assign, body, hy, hR⟩ := hY _ L[k] wr hJs (by simp; omega)
      generalize L[k] = x at *
      have hi : ((k + 1 : Nat) : Int) - 1 = (k : Int) := by omega
      rw [hi]
      gi_wp2
      refine hR.mono ?_
      rintro e W3 (⟨rfl, hJ3, hk3⟩ | ⟨rfl, hJx3⟩)
      · gi_wp2
        go_roundw
        case rel => exact ⟨k, rfl, by omega, (World.cell?_of_block hk3.1).trans hB, fun i v h => (World.cell?_of_block hk3.2).trans (hC i v h), by rw [← hrv]; exact hJ3⟩
        case measure => show ((k : Int) - 1 + 1).toNat < ((k : Int) + 1).toNat; omega
      · gi_wp2
        refine bodyPost_ret (results_none rfl _ _ _) rfl ?_
        exact ⟨⟨_, rfl⟩, .inr ⟨_, ⟨(L.take k).reverse, by rw [hrv, ← List.reverse_append, List.take_append_drop]⟩, hJx3⟩⟩

set_option maxHeartbeats 1000000 in
theorem Tryd.down_in (F : Fence) (n : Nat) (h25 : F.fn 58) (hro : F.round = none) (p0 : Option Addr) (w : World) :
    CallsIn F n Tryd.prog 58 #[.pointer p0] w fun e w' => e = .returned (.func (.func 69) #[] #[.pointer (some ⟨w.heap.size, 0, none⟩)]) ∧ w' = w.alloc (.cells #[.pointer p0] 55) := by
  refine callsIn_of_wp Tryd.func58 rfl h25 ?_ hro
  simp only [Tryd.ntmps58, List.size_toArray, List.length_cons, List.length_nil, Nat.reduceAdd, Nat.reduceSub, Array.replicate_succ, Array.replicate_zero, List.push_toArray, List.append_toArray, List.nil_append, List.cons_append]
  gi_wp2
  go_ret
  exact ⟨rfl, rfl⟩

theorem Tryd.down_stops {α : Type} (enc : α → Value) (F : Fence) (n : Nat) (h38 : F.fn 69) (hro : F.round = none) (hn : 1 ≤ n) (Bn bq : Nat) (L : List α) (hL : L.length = 8) (w : World) (hBn : Bn < w.heap.size) (hbq : bq < w.heap.size)
    (hB : w.cell? ⟨Bn, 0, none⟩ = some (.pointer (some ⟨bq, 0, none⟩))) (hc : ∀ i v, L[i]? = some v → w.cell? ⟨bq, i, none⟩ = some (enc v)) :
    SeqStopsK F n Tryd.prog 69 #[.pointer (some ⟨Bn, 0, none⟩)] (fun x : α => #[enc x]) (Keep2 Bn bq) (fun ys => ys = L.reverse) (fun pre => pre <+: L.reverse) 8 w := fun l J Jx W hW _ _ hY h0 =>
  Tryd.down1_in enc F n h38 hro hn l Bn bq L hL J Jx hY W ((hW.cell (p := ⟨Bn, 0, none⟩) (by simp only; omega)).trans hB) (fun i v h => (hW.cell (p := ⟨bq, i, none⟩) (by simp only; omega)).trans (hc i v h)) h0
end Go.Proofs
