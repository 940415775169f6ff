/- The range over things from the last one on: what the function that 'Backward' hands back keeps to. -/
import Derived.RangeFuncNested
import Derived.RangeFuncLeaves
import Derived.Shelf.Abstract
import Derived.WalkKit
import Derived.OwnWalkIn
import Derived.TacticsInMore
import Derived.LoopNIn
import Derived.LoopIn
import Derived.Test.YtfmehojcgdfghaaDoorPrg39
import Derived.Test.YtfmehojcgdfghaaDoorBits
set_option linter.unusedSimpArgs false
set_option linter.unusedVariables false
namespace Go.Proofs
open Go.RowKit Go.Shelf
attribute [local go_sem] Oper.semAt_some
/-- The blocks a and b have not turned. -/
def KeepB (a b : Nat) (W W' : World) : Prop := W'.heap[a]? = W.heap[a]? ∧ W'.heap[b]? = W.heap[b]?
theorem KeepB.t {a b : Nat} {A B C : World} (h : KeepB a b A B) (k : KeepB a b B C) : KeepB a b A C := ⟨k.1.trans h.1, k.2.trans h.2⟩
theorem KeepB.b {a b : Nat} {w : World} (ha : a < w.heap.size) (hb : b < w.heap.size) (W : World) (l : Nat) (o o' : Obj) (hl : w.heap.size ≤ l) (_ : W.heap[l]? = some o) (_ : o.isCells = false) (_ : o.isWalk = false) : KeepB a b W (W.putObj l o') :=
  ⟨World.putObj_heap_other (by omega), World.putObj_heap_other (by omega)⟩
theorem KeepB.refl (a b : Nat) (W : World) : KeepB a b W W := ⟨rfl, rfl⟩
/-- A thing's cells. -/
abbrev it3 (x : Int × Int × Go.Dav.BV) : List Value := Go.Dav.recIIU x
abbrev IX := Nat × Int × Int × Go.Dav.BV
theorem Tryd.back1_in (F : Fence) (n : Nat) (h38 : F.fn 52) (hro : F.round = none) (hn : 1 ≤ n) (l Bn bq o c : Nat) (p : Option Addr) (L : List IX) (hL : L.length ≤ 1048576) (hix : ∀ (i : Nat) (v : IX), L[i]? = some v → v.1 = i) (J Jx : List IX → World → Prop)
    (hY : ∀ pre x W, J pre W → pre.length < L.length → YieldAt F (n - 1) Tryd.prog l #[.int .i64 (x.1 : Int), .agg (it3 x.2).toArray] W fun e W' =>
      (e = .returned (.bool true) ∧ J (pre ++ [x]) W' ∧ KeepB Bn bq W W') ∨ (e = .returned (.bool false) ∧ Jx (pre ++ [x]) W'))
    (W : World) (hBn : W.cell? ⟨Bn, 0, none⟩ = some (.slice p L.length c)) (hc : ∀ (i : Nat) (v : IX), L[i]? = some v → p = some ⟨bq, o, none⟩ ∧ ∀ j u, (it3 v.2)[j]? = some u → W.cell? ⟨bq, o + i * 3 + j, none⟩ = some u) (h0 : J [] W) :
    CallsIn F n Tryd.prog 52 #[.func (.yield l) #[] #[], .pointer (some ⟨Bn, 0, none⟩)] W fun e W' => (∃ v, e = .returned v) ∧
      ((∃ ys, ys = L.reverse ∧ J ys W') ∨ (∃ pre, pre <+: L.reverse ∧ Jx pre W')) := by
  refine callsIn_of_wp Tryd.func52 rfl h38 ?_ hro
  simp only [Tryd.ntmps52, List.size_toArray, List.length_cons, List.length_nil, Nat.reduceAdd, Nat.reduceSub, Array.replicate_succ, Array.replicate_zero, List.push_toArray, List.append_toArray, List.nil_append, List.cons_append]
  gi_wp2
  gi_loopw [3] (fun q wr => ∃ (k : Nat), q = .int .i64 ((k : Int) - 1) ∧ k ≤ L.length ∧ wr.cell? ⟨Bn, 0, none⟩ = some (.slice p L.length c) ∧ (∀ (i : Nat) (v : IX), L[i]? = some v → p = some ⟨bq, o, none⟩ ∧ ∀ j u, (it3 v.2)[j]? = some u → wr.cell? ⟨bq, o + i * 3 + j, none⟩ = some u) ∧ J (L.drop k).reverse wr)
    (fun q wr => match q with | .int _ i => (i + 1).toNat | _ => 0)
  case atStart =>
    exact ⟨L.length, rfl, Nat.le_refl _, hBn, hc, by rw [List.drop_of_length_le (by omega)]; exact h0⟩
  case round =>
    obtain ⟨k, rfl, hk, hB, hC, hJs⟩ := hrel
    cases k with
    | zero =>
      gi_wp2
      go_end0
      exact ⟨⟨_, rfl⟩, .inl ⟨_, by simp, hJs⟩⟩
    | succ k =>
      have hkl : k < L.length := by omega
      obtain ⟨rfl, hcell⟩ := hC k _ (List.getElem?_eq_getElem hkl)
      have hkx := hix k _ (List.getElem?_eq_getElem hkl)
      have hdr : L.drop k = L[k] :: L.drop (k + 1) := List.drop_eq_getElem_cons hkl
      have hrv : (L.drop (k + 1)).reverse ++ [L[k]] = (L.drop k).reverse := by rw [hdr, List.reverse_cons]
      obtain ⟨fn, tmps, assign, body, hy, hR⟩ := hY _ L[k] wr hJs (by simp; omega)
      rw [hkx] at hy
      generalize L[k] = x at *
      have hi : ((k + 1 : Nat) : Int) - 1 = (k : Int) := by omega
      rw [hi]
      have c0 : wr.cell? ⟨bq, o + k * 3, none⟩ = some (.int .i64 x.2.1) := hcell 0 _ rfl
      have c1 : wr.cell? ⟨bq, o + k * 3 + 1, none⟩ = some (.int .i64 x.2.2.1) := hcell 1 _ rfl
      have c2 : wr.cell? ⟨bq, o + k * 3 + 2, none⟩ = some (.int .u64 (Go.Dav.mi x.2.2.2)) := hcell 2 _ rfl
      replace hy : (Instr.yield l #[.int .i64 (k : Int), .agg #[.int .i64 x.2.1, .int .i64 x.2.2.1, .int .u64 (Go.Dav.mi x.2.2.2)]]).run Tryd.prog wr = .ok (.round l fn tmps assign body) wr := hy
      gi_wp2
      refine hR.mono ?_
      rintro e W3 (⟨rfl, hJ3, hk3⟩ | ⟨rfl, hJx3⟩)
      · gi_wp2
        go_roundw
        case rel => exact ⟨k, rfl, by omega, (World.cell?_of_block hk3.1).trans hB, fun i v h => ⟨by simp, fun j u hu => (World.cell?_of_block hk3.2).trans ((hC i v h).2 j u hu)⟩, by rw [← hrv]; exact hJ3⟩
        case measure => show ((k : Int) - 1 + 1).toNat < ((k : Int) + 1).toNat; omega
      · gi_wp2
        refine bodyPost_ret (results_none rfl _ _ _) rfl ?_
        exact ⟨⟨_, rfl⟩, .inr ⟨_, ⟨(L.take k).reverse, by rw [hrv, ← List.reverse_append, List.take_append_drop]⟩, hJx3⟩⟩

set_option maxHeartbeats 1000000 in
theorem Tryd.back_in (F : Fence) (n : Nat) (h25 : F.fn 48) (hro : F.round = none) (p : Option Addr) (m c : Nat) (w : World) :
    CallsIn F n Tryd.prog 48 #[.slice p m c] w fun e w' => e = .returned (.func (.func 52) #[] #[.pointer (some ⟨w.heap.size, 0, none⟩)]) ∧ w' = w.alloc (.cells #[.slice p m c] 28) := by
  refine callsIn_of_wp Tryd.func48 rfl h25 ?_ hro
  simp only [Tryd.ntmps48, List.size_toArray, List.length_cons, List.length_nil, Nat.reduceAdd, Nat.reduceSub, Array.replicate_succ, Array.replicate_zero, List.push_toArray, List.append_toArray, List.nil_append, List.cons_append]
  gi_wp2
  go_ret
  exact ⟨rfl, rfl⟩

theorem Tryd.back_stops (F : Fence) (n : Nat) (h38 : F.fn 52) (hro : F.round = none) (hn : 1 ≤ n) (Bn bq o c : Nat) (p : Option Addr) (L : List IX) (hL : L.length ≤ 1048576) (hix : ∀ (i : Nat) (v : IX), L[i]? = some v → v.1 = i) (w : World) (hBn : Bn < w.heap.size) (hbq : bq < w.heap.size)
    (hB : w.cell? ⟨Bn, 0, none⟩ = some (.slice p L.length c)) (hc : ∀ (i : Nat) (v : IX), L[i]? = some v → p = some ⟨bq, o, none⟩ ∧ ∀ j u, (it3 v.2)[j]? = some u → w.cell? ⟨bq, o + i * 3 + j, none⟩ = some u) :
    SeqStopsK F n Tryd.prog 52 #[.pointer (some ⟨Bn, 0, none⟩)] (fun x : IX => #[.int .i64 (x.1 : Int), .agg (it3 x.2).toArray]) (KeepB Bn bq) (fun ys => ys = L.reverse) (fun pre => pre <+: L.reverse) L.length w := fun l J Jx W hW _ _ hY h0 =>
  Tryd.back1_in F n h38 hro hn l Bn bq o c p L hL hix J Jx hY W ((hW.cell (p := ⟨Bn, 0, none⟩) (by simp only; omega)).trans hB) (fun i v h => ⟨(hc i v h).1, fun j u hu => (hW.cell (p := ⟨bq, _, none⟩) (by simp only; omega)).trans ((hc i v h).2 j u hu)⟩) h0
end Go.Proofs
