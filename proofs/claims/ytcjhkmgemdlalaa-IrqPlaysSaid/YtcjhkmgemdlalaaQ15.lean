/- The statement on a table of interrupts that is not there. -/
import Derived.Test.YtcjhkmgemdlalaaP15
set_option linter.unusedSimpArgs false
set_option linter.unusedVariables false
namespace Go.Dav
open Go.Proofs

theorem requestNil_ok (n : Int) (m : Int) (w : World) : Calls Try.prog 8 #[.pointer none, .int .i64 n, .int .u64 m] w fun e w' => e = .returned (.int .i64 1) ∧ w' = w := by
  refine u8 ?_
  rw [t8]
  refine ⟨(findNil_ok _ w).mono ?_⟩
  rintro e w' ⟨rfl, rfl⟩
  first | exact ⟨_, _, rfl, fun _ => ⟨rfl, rfl⟩, fun h => by simp at h⟩ | exact ⟨_, _, rfl, fun h => by simp at h, fun _ => ⟨rfl, rfl⟩⟩ | exact ⟨_, rfl, rfl, rfl⟩
theorem freeNil_ok (n : Int) (w : World) : Calls Try.prog 23 #[.pointer none, .int .i64 n] w fun e w' => e = .returned (.int .i64 1) ∧ w' = w := by
  refine u23 ?_
  rw [t23]
  refine ⟨(wantedNil_ok _ w).mono ?_⟩
  rintro e w' ⟨rfl, rfl⟩
  first | exact ⟨_, _, rfl, fun _ => ⟨rfl, rfl⟩, fun h => by simp at h⟩ | exact ⟨_, _, rfl, fun h => by simp at h, fun _ => ⟨rfl, rfl⟩⟩ | exact ⟨_, rfl, rfl, rfl⟩
theorem aimNil_ok (n : Int) (m : Int) (w : World) : Calls Try.prog 24 #[.pointer none, .int .i64 n, .int .u64 m] w fun e w' => e = .returned (.int .i64 1) ∧ w' = w := by
  refine u24 ?_
  rw [t24]
  refine ⟨(wantedNil_ok _ w).mono ?_⟩
  rintro e w' ⟨rfl, rfl⟩
  first | exact ⟨_, _, rfl, fun _ => ⟨rfl, rfl⟩, fun h => by simp at h⟩ | exact ⟨_, _, rfl, fun h => by simp at h, fun _ => ⟨rfl, rfl⟩⟩ | exact ⟨_, rfl, rfl, rfl⟩
theorem ihushNil_ok (n : Int) (b : Bool) (w : World) : Calls Try.prog 28 #[.pointer none, .int .i64 n, .bool b] w fun e w' => e = .returned (.int .i64 1) ∧ w' = w := by
  refine u28 ?_
  rw [t28]
  refine ⟨(wantedNil_ok _ w).mono ?_⟩
  rintro e w' ⟨rfl, rfl⟩
  first | exact ⟨_, _, rfl, fun _ => ⟨rfl, rfl⟩, fun h => by simp at h⟩ | exact ⟨_, _, rfl, fun h => by simp at h, fun _ => ⟨rfl, rfl⟩⟩ | exact ⟨_, rfl, rfl, rfl⟩
theorem hushNil_ok (n : Int) (w : World) : Calls Try.prog 9 #[.pointer none, .int .i64 n] w fun e w' => e = .returned (.int .i64 1) ∧ w' = w := by
  refine u9 ?_
  rw [t9]
  refine ⟨(ihushNil_ok _ _ w).mono ?_⟩
  rintro e w' ⟨rfl, rfl⟩
  first | exact ⟨_, _, rfl, fun _ => ⟨rfl, rfl⟩, fun h => by simp at h⟩ | exact ⟨_, _, rfl, fun h => by simp at h, fun _ => ⟨rfl, rfl⟩⟩ | exact ⟨_, rfl, rfl, rfl⟩
theorem unhushNil_ok (n : Int) (w : World) : Calls Try.prog 13 #[.pointer none, .int .i64 n] w fun e w' => e = .returned (.int .i64 1) ∧ w' = w := by
  refine u13 ?_
  rw [t13]
  refine ⟨(ihushNil_ok _ _ w).mono ?_⟩
  rintro e w' ⟨rfl, rfl⟩
  first | exact ⟨_, _, rfl, fun _ => ⟨rfl, rfl⟩, fun h => by simp at h⟩ | exact ⟨_, _, rfl, fun h => by simp at h, fun _ => ⟨rfl, rfl⟩⟩ | exact ⟨_, rfl, rfl, rfl⟩
theorem raiseNil_ok (n : Int) (w : World) : Calls Try.prog 10 #[.pointer none, .int .i64 n] w fun e w' => e = .returned (.int .i64 1) ∧ w' = w := by
  refine u10 ?_
  rw [t10]
  refine ⟨(wantedNil_ok _ w).mono ?_⟩
  rintro e w' ⟨rfl, rfl⟩
  first | exact ⟨_, _, rfl, fun _ => ⟨rfl, rfl⟩, fun h => by simp at h⟩ | exact ⟨_, _, rfl, fun h => by simp at h, fun _ => ⟨rfl, rfl⟩⟩ | exact ⟨_, rfl, rfl, rfl⟩
theorem clearNil_ok (n : Int) (w : World) : Calls Try.prog 12 #[.pointer none, .int .i64 n] w fun e w' => e = .returned (.int .i64 1) ∧ w' = w := by
  refine u12 ?_
  rw [t12]
  refine ⟨(wantedNil_ok _ w).mono ?_⟩
  rintro e w' ⟨rfl, rfl⟩
  first | exact ⟨_, _, rfl, fun _ => ⟨rfl, rfl⟩, fun h => by simp at h⟩ | exact ⟨_, _, rfl, fun h => by simp at h, fun _ => ⟨rfl, rfl⟩⟩ | exact ⟨_, rfl, rfl, rfl⟩
theorem readyNil_ok (n : Int) (w : World) : Calls Try.prog 11 #[.pointer none, .int .i64 n] w fun e w' => e = .returned (.bool false) ∧ w' = w := by
  refine u11 ?_
  rw [t11]
  refine ⟨(wantedNil_ok _ w).mono ?_⟩
  rintro e w' ⟨rfl, rfl⟩
  first | exact ⟨_, _, rfl, fun _ => ⟨rfl, rfl⟩, fun h => by simp at h⟩ | exact ⟨_, _, rfl, fun h => by simp at h, fun _ => ⟨rfl, rfl⟩⟩ | exact ⟨_, rfl, rfl, rfl⟩
theorem listNil_ok  (w : World) : Calls Try.prog 18 #[.pointer none] w fun e w' => e = .returned (.slice none 0 0) ∧ w' = w := by
  refine u18 ?_
  rw [t18]
  exact ⟨fun _ => ⟨rfl, rfl⟩, fun h => by simp at h⟩

theorem getNil_ok (n : Int) (w : World) : Calls Try.prog 20 #[.pointer none, .int .i64 n] w fun e w' => e = .returned (.tuple #[.agg #[.bool false, .bool false, .bool false, .int .u64 0], .int .i64 1]) ∧ Upd no w w' := by
  refine u20 ?_
  rw [t20]
  refine ⟨fun w1 hN => ⟨(findNil_ok n w1).mono ?_⟩⟩
  rintro e w2 ⟨rfl, rfl⟩
  refine ⟨_, _, rfl, fun _ => ?_, fun h => by simp at h⟩
  refine hN.blk'.wr0 (by simp) fun w3 hW => ?_
  have hB := hW.blk'
  exact ⟨_, hB.cell rfl, _, hB.cell rfl, _, hB.cell rfl, _, hB.cell rfl, rfl, (hN.upd no).trans hW.U (fun i hi e => absurd hi (by omega))⟩

theorem irqNil_ok {W : World} {n : Int} (_ : (Lit.int .i64 n).wf = true) (m : BV) : Calls Try.prog 5 #[.int .i64 n, .int .u64 (mi m)] W fun e w' => e = .returned (.bool true) ∧ Upd no W w' := by
  refine u5 ?_
  rw [t5]
  refine ⟨(getNil_ok _ _).mono ?_⟩
  rintro e w2 ⟨rfl, hU⟩
  have hU0 : ∀ i, i < W.heap.size → i < w2.heap.size := fun i hi => Nat.lt_of_lt_of_le hi hU.size
  refine ⟨_, _, _, _, _, rfl, ?_⟩
  refine ⟨fun w3 hN => ?_⟩
  replace hU := hU.and (hN.upd no)
  have hs := hN.size
  refine hN.blk'.wr0 (by simp) fun w4 hW => ?_
  replace hU := hU.trans hW.U (fun i hi e => by have := hU0 i hi; omega)
  refine ⟨(requestNil_ok _ _ _).mono ?_⟩
  rintro e w2 ⟨rfl, rfl⟩
  refine ⟨_, rfl, ?_⟩
  refine ⟨fun g1 => ?_, fun g1 => ?_⟩
  · refine ⟨(freeNil_ok _ _).mono ?_⟩
    rintro e w2 ⟨rfl, rfl⟩
    refine ⟨_, rfl, ?_⟩
    refine ⟨fun g2 => ?_, fun g2 => ?_⟩
    · refine ⟨(aimNil_ok _ _ _).mono ?_⟩
      rintro e w2 ⟨rfl, rfl⟩
      refine ⟨_, rfl, ?_⟩
      refine ⟨fun g3 => ?_, fun g3 => ?_⟩
      · refine ⟨(hushNil_ok _ _).mono ?_⟩
        rintro e w2 ⟨rfl, rfl⟩
        refine ⟨_, rfl, ?_⟩
        refine ⟨fun g4 => ?_, fun g4 => ?_⟩
        · refine ⟨(unhushNil_ok _ _).mono ?_⟩
          rintro e w2 ⟨rfl, rfl⟩
          refine ⟨_, rfl, ?_⟩
          refine ⟨fun g5 => ?_, fun g5 => ?_⟩
          · refine ⟨(raiseNil_ok _ _).mono ?_⟩
            rintro e w2 ⟨rfl, rfl⟩
            refine ⟨_, rfl, ?_⟩
            refine ⟨fun g6 => ?_, fun g6 => ?_⟩
            · refine ⟨(clearNil_ok _ _).mono ?_⟩
              rintro e w2 ⟨rfl, rfl⟩
              refine ⟨_, rfl, ?_⟩
              refine ⟨fun g7 => ?_, fun g7 => ?_⟩
              · refine ⟨(readyNil_ok _ _).mono ?_⟩
                rintro e w2 ⟨rfl, rfl⟩
                refine ⟨_, rfl, ?_⟩
                refine ⟨fun g8 => ?_, fun g8 => ?_⟩
                · refine ⟨fun g9 => ?_, fun g9 => ?_⟩
                  · refine ⟨(listNil_ok _).mono ?_⟩
                    rintro e w2 ⟨rfl, rfl⟩
                    refine ⟨_, _, _, rfl, ?_⟩
                    refine ⟨fun g10 => ?_, fun g10 => ?_⟩
                    · refine ⟨(known_ok _).mono ?_⟩
                      rintro e w2 ⟨rfl, hU2⟩
                      refine ⟨_, rfl, ?_⟩
                      exact ⟨rfl, hU.and hU2⟩
                    · exact absurd g10 (by decide)
                  · exact absurd g9 (by decide)
                · exact absurd g8 (by decide)
              · exact absurd g7 (by decide)
            · exact absurd g6 (by decide)
          · exact absurd g5 (by decide)
        · exact absurd g4 (by decide)
      · exact absurd g3 (by decide)
    · exact absurd g2 (by decide)
  · exact absurd g1 (by decide)
end Go.Dav
