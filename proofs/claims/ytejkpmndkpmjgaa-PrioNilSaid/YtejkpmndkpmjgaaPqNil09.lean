/- What the functions of a queue by priorities come to that is not there. -/
import Derived.Test.YtejkpmndkpmjgaaPrio09
set_option linter.unusedSimpArgs false
set_option linter.unusedVariables false
namespace Go.Proofs
open Go.RowKit Go.Shelf Go.Dav
attribute [local go_sem] Oper.semAt_some
set_option maxRecDepth 100000 in
set_option maxHeartbeats 4000000 in
theorem Try.top_nil (w : World) : Calls Try.prog 27 #[.pointer none] w fun e w' => e = .returned (.tuple #[.pointer none, .int .i64 1]) ∧ Upd no w w' := by
  rw [← callsIn_wide (n := 5)]
  refine callsIn_of_wp_marks Try.func27 rfl trivial ?_ rfl
  simp only [Try.ntmps27, List.size_toArray, List.length_cons, List.length_nil, Nat.reduceAdd, Nat.reduceSub, Array.replicate_succ, Array.replicate_zero, List.push_toArray, List.append_toArray, List.nil_append, List.cons_append]
  gi_wp2
  have c0 := cell_new_l w (.pointer none) 52
  have c1 := cell_new_l (w.alloc (.cells #[.pointer none] 52)) (.int .i64 1) 24
  simp only [World.size_alloc] at c1
  have ha := cell_alloc_l (.cells #[.int .i64 1] 24) c0.1
  refine ⟨_, ?_, rfl, (Upd.allocd w _).trans (Upd.allocd _ _) (fun _ _ h => h)⟩
  simp [results, Try.f27, go_sem, ha, c1.1]
set_option maxRecDepth 100000 in
set_option maxHeartbeats 4000000 in
theorem Try.list_nil (w : World) : Calls Try.prog 9 #[.pointer none] w fun e w' => e = .returned (.slice none 0 0) ∧ Upd no w w' := by
  rw [← callsIn_wide (n := 5)]
  refine callsIn_of_wp_marks Try.func9 rfl trivial ?_ rfl
  simp only [Try.ntmps9, List.size_toArray, List.length_cons, List.length_nil, Nat.reduceAdd, Nat.reduceSub, Array.replicate_succ, Array.replicate_zero, List.push_toArray, List.append_toArray, List.nil_append, List.cons_append]
  gi_wp2
  exact ⟨_, results_tmp rfl _ _ _, rfl, Upd.refl _ _⟩
end Go.Proofs
namespace Go.Dav
open Go.Proofs
theorem pqTopNil_ok (w : World) : Calls Try.prog 10 #[.pointer none] w fun e w' => e = .returned (.tuple #[.int .i64 0, .int .i64 1]) ∧ Upd no w w' := by
  refine u10 ?_
  rw [t10]
  refine ⟨(Try.top_nil w).mono ?_⟩
  rintro e w1 ⟨rfl, hU⟩
  exact ⟨_, _, rfl, fun _ => ⟨rfl, hU⟩, fun h => by simp at h⟩
theorem pqTurnNil_ok (w : World) : Calls Try.prog 13 #[.pointer none] w fun e w' => e = .returned (.int .i64 1) ∧ Upd no w w' := by
  refine u13 ?_
  rw [t13]
  refine ⟨(Try.top_nil w).mono ?_⟩
  rintro e w1 ⟨rfl, hU⟩
  exact ⟨_, _, rfl, fun _ => ⟨rfl, hU⟩, fun h => by simp at h⟩
theorem pqLenNil_ok (w : World) : Calls Try.prog 19 #[.pointer none] w fun e w' => e = .returned (.int .i64 0) ∧ Upd no w w' := by
  refine u19 ?_
  rw [t19]
  exact ⟨fun _ => ⟨rfl, Upd.refl _ _⟩, fun h => by simp at h⟩
theorem pqPrioNil_ok (k : Int) (w : World) : Calls Try.prog 12 #[.pointer none, .int .i64 k] w fun e w' => e = .returned (.tuple #[.int .i64 0, .bool false]) ∧ Upd no w w' := by
  refine u12 ?_
  rw [t12]
  exact ⟨fun _ => ⟨rfl, Upd.refl _ _⟩, fun h => by simp at h⟩
theorem pqDropNil_ok (k : Int) (w : World) : Calls Try.prog 22 #[.pointer none, .int .i64 k] w fun e w' => e = .returned (.int .i64 1) ∧ Upd no w w' := by
  refine u22 ?_
  rw [t22]
  exact ⟨fun _ => ⟨rfl, Upd.refl _ _⟩, fun h => by simp at h⟩
theorem pqPushNil_ok (p k : Int) (w : World) : Calls Try.prog 8 #[.pointer none, .int .i64 p, .int .i64 k] w fun e w' => e = .returned (.int .i64 1) ∧ Upd no w w' := by
  refine u8 ?_
  rw [t8]
  exact ⟨fun _ => ⟨rfl, Upd.refl _ _⟩, fun h => by simp at h⟩
theorem pqBackNil_ok (k : Int) (w : World) : Calls Try.prog 21 #[.pointer none, .int .i64 k] w fun e w' => e = .returned (.int .i64 1) ∧ Upd no w w' := by
  refine u21 ?_
  rw [t21]
  refine ⟨(pqPrioNil_ok k w).mono ?_⟩
  rintro e w1 ⟨rfl, hU⟩
  refine ⟨_, _, rfl, ⟨(pqDropNil_ok k w1).mono ?_⟩⟩
  rintro e w2 ⟨rfl, hU2⟩
  exact ⟨_, rfl, fun _ => ⟨rfl, hU.and hU2⟩, fun h => by simp at h⟩
end Go.Dav
