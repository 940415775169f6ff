/- What the functions of the cores' queues come to that are not there. -/
import Derived.Test.YtgakbnonkgohfaaDoorRunq10d
set_option linter.unusedSimpArgs false
set_option linter.unusedVariables false
set_option linter.unusedVariables false
namespace Go.Dav
open Go.Proofs
section
variable (w : World)
theorem rqmayNil_ok (c : Int) : Calls Tryd.prog 36 #[.pointer none, .int .i64 c] w fun e w' => e = .returned (.int .i64 1) ∧ w' = w := by
  refine u36 ?_
  rw [t36]
  exact ⟨fun _ => ⟨rfl, rfl⟩, fun g => by simp at g⟩
theorem rqwhereNil_ok (k : Int) : Calls Tryd.prog 9 #[.pointer none, .int .i64 k] w fun e w' => e = .returned (.tuple #[.int .i64 0, .bool false]) ∧ w' = w := by
  refine u9 ?_
  rw [t9]
  exact ⟨fun _ => ⟨rfl, rfl⟩, fun g => by simp at g⟩
theorem rqprioNil_ok (k : Int) : Calls Tryd.prog 11 #[.pointer none, .int .i64 k] w fun e w' => e = .returned (.tuple #[.int .i64 0, .bool false]) ∧ w' = w := by
  refine u11 ?_
  rw [t11]
  refine ⟨(rqwhereNil_ok w k).mono ?_⟩
  rintro e w1 ⟨rfl, rfl⟩
  exact ⟨_, _, rfl, fun _ => ⟨rfl, rfl⟩, fun g => by simp at g⟩
theorem rqputNil_ok (c p k : Int) : Calls Tryd.prog 24 #[.pointer none, .int .i64 c, .int .i64 p, .int .i64 k] w fun e w' => e = .returned (.int .i64 1) ∧ w' = w := by
  refine u24 ?_
  rw [t24]
  refine ⟨(rqmayNil_ok w c).mono ?_⟩
  rintro e w1 ⟨rfl, rfl⟩
  exact ⟨_, rfl, fun _ => ⟨rfl, rfl⟩, fun g => by simp at g⟩
theorem rqpickNil_ok (c : Int) : Calls Tryd.prog 22 #[.pointer none, .int .i64 c] w fun e w' => e = .returned (.tuple #[.int .i64 0, .int .i64 1]) ∧ w' = w := by
  refine u22 ?_
  rw [t22]
  refine ⟨(rqmayNil_ok w c).mono ?_⟩
  rintro e w1 ⟨rfl, rfl⟩
  exact ⟨_, rfl, fun _ => ⟨rfl, rfl⟩, fun g => by simp at g⟩
theorem rqloadNil_ok (c : Int) : Calls Tryd.prog 13 #[.pointer none, .int .i64 c] w fun e w' => e = .returned (.int .i64 0) ∧ w' = w := by
  refine u13 ?_
  rw [t13]
  refine ⟨(rqmayNil_ok w c).mono ?_⟩
  rintro e w1 ⟨rfl, rfl⟩
  exact ⟨_, rfl, fun _ => ⟨rfl, rfl⟩, fun g => by simp at g⟩
theorem rqlistNil_ok (c : Int) : Calls Tryd.prog 16 #[.pointer none, .int .i64 c] w fun e w' => e = .returned (.slice none 0 0) ∧ w' = w := by
  refine u16 ?_
  rw [t16]
  refine ⟨(rqmayNil_ok w c).mono ?_⟩
  rintro e w1 ⟨rfl, rfl⟩
  exact ⟨_, rfl, fun _ => ⟨rfl, rfl⟩, fun g => by simp at g⟩
theorem rqmoveNil_ok (f t : Int) : Calls Tryd.prog 23 #[.pointer none, .int .i64 f, .int .i64 t] w fun e w' => e = .returned (.tuple #[.int .i64 0, .int .i64 1]) ∧ w' = w := by
  refine u23 ?_
  rw [t23]
  refine ⟨(rqmayNil_ok w f).mono ?_⟩
  rintro e w1 ⟨rfl, rfl⟩
  exact ⟨_, rfl, fun _ => ⟨rfl, rfl⟩, fun g => by simp at g⟩
theorem rqofNil_ok (k : Int) : Calls Tryd.prog 49 #[.pointer none, .int .i64 k] w fun e w' => e = .returned (.tuple #[.pointer none, .int .i64 1]) ∧ w' = w := by
  refine u49 ?_
  rw [t49]
  exact ⟨fun _ => ⟨rfl, rfl⟩, fun g => by simp at g⟩
theorem rqbackNil_ok (k : Int) : Calls Tryd.prog 25 #[.pointer none, .int .i64 k] w fun e w' => e = .returned (.int .i64 1) ∧ w' = w := by
  refine u25 ?_
  rw [t25]
  refine ⟨(rqofNil_ok w k).mono ?_⟩
  rintro e w1 ⟨rfl, rfl⟩
  exact ⟨_, _, rfl, fun _ => ⟨rfl, rfl⟩, fun g => by simp at g⟩
theorem rqtakeNil_ok (k : Int) : Calls Tryd.prog 26 #[.pointer none, .int .i64 k] w fun e w' => e = .returned (.int .i64 1) ∧ w' = w := by
  refine u26 ?_
  rw [t26]
  refine ⟨(rqofNil_ok w k).mono ?_⟩
  rintro e w1 ⟨rfl, rfl⟩
  exact ⟨_, _, rfl, fun _ => ⟨rfl, rfl⟩, fun g => by simp at g⟩
theorem rqbusyNil_ok (m : Int) : Calls Tryd.prog 18 #[.pointer none, .int .u64 m] w fun e w' => e = .returned (.tuple #[.int .i64 0, .int .i64 1]) ∧ w' = w := by
  have hb : Calls Tryd.prog 41 #[.pointer none, .int .u64 m, .func (.func 42) #[] #[]] w fun e w' => e = .returned (.tuple #[.int .i64 0, .int .i64 1]) ∧ w' = w := by
    refine u41 ?_
    rw [t41]
    exact ⟨fun _ => ⟨rfl, rfl⟩, fun g => by simp at g⟩
  refine u18 ?_
  rw [t18]
  refine ⟨hb.mono ?_⟩
  rintro e w1 ⟨rfl, rfl⟩
  exact ⟨_, _, rfl, rfl, rfl⟩
theorem rqidleNil_ok (m : Int) : Calls Tryd.prog 20 #[.pointer none, .int .u64 m] w fun e w' => e = .returned (.tuple #[.int .i64 0, .int .i64 1]) ∧ w' = w := by
  have hb : Calls Tryd.prog 41 #[.pointer none, .int .u64 m, .func (.func 44) #[] #[]] w fun e w' => e = .returned (.tuple #[.int .i64 0, .int .i64 1]) ∧ w' = w := by
    refine Fn2.u41 ?_
    rw [Fn2.t41]
    exact ⟨fun _ => ⟨rfl, rfl⟩, fun g => by simp at g⟩
  refine u20 ?_
  rw [t20]
  refine ⟨hb.mono ?_⟩
  rintro e w1 ⟨rfl, rfl⟩
  exact ⟨_, _, rfl, rfl, rfl⟩
end
end Go.Dav
