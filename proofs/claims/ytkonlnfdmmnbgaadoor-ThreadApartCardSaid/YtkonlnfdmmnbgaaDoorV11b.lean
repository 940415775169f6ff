/- What functions of the program come to. -/
import Derived.Test.YtkonlnfdmmnbgaaDoorPrg11
namespace Go.Dav
open Go.Proofs
/-! (*davit/thread.Table).Wake -/
def M17 : Mt := { N := 36, keep := [(0, [0, 1]), (1, [6, 7]), (2, [6, 7, 15]), (3, [4, 5]), (4, [6, 19]), (5, [4, 5]), (6, [6, 8]), (7, [8]), (8, [4, 5])], ords := [], bk := [(0, [6])], cuts := [], lk := [] }
noncomputable def c17 : Code := bodyOf Tryd.f17
theorem b17 : Tryd.f17.body = some c17 := by kernel_rfl
theorem n17 : Tryd.f17.ntmps = M17.N := by kernel_rfl
theorem u17 {p0_t : Option Addr} {p1_id : Int} {w : World} {R : Ending → World → Prop} (h : den Tryd.prog M17 c17 (argE 0 [(Value.pointer p0_t), (Value.int IntKind.i64 p1_id)]) w (retK Tryd.prog Tryd.f17.results.toList R)) : Calls Tryd.prog 17 #[(Value.pointer p0_t), (Value.int IntKind.i64 p1_id)] w R := calls_den okProg Tryd.func17 b17 n17 (Nat.le_of_ble_eq_true rfl) h
theorem t17 (p0_t : Option Addr) (p1_id : Int) (w : World) (R : Ending → World → Prop) : den Tryd.prog M17 c17 (argE 0 [(Value.pointer p0_t), (Value.int IntKind.i64 p1_id)]) w (retK Tryd.prog Tryd.f17.results.toList R) =
(Call Tryd.prog 30 [Value.pointer p0_t, Value.int IntKind.i64 p1_id] w fun e w' =>
  ∃ p n,
    e = Ending.returned (Value.tuple #[Value.pointer p, Value.int IntKind.i64 n]) ∧
      ((n != (0 : Int)) = true →
          R (Ending.returned (Value.tuple #[Value.int IntKind.i64 0, Value.int IntKind.i64 n])) w') ∧
        ((n != (0 : Int)) = false →
          ∃ a,
            p = some a ∧
              ∃ b,
                World.cell? w' (Addr.add a 4) = some (Value.bool b) ∧
                  ((!b) = true →
                      R
                        (Ending.returned
                          (Value.tuple #[Value.int IntKind.i64 0, Value.int IntKind.i64 6]))
                        w') ∧
                    ((!b) = false →
                      ∃ a,
                        p = some a ∧
                          ∃ n,
                            World.cell? w' (Addr.add a 5) = some (Value.int IntKind.i64 n) ∧
                              ∃ a,
                                p = some a ∧
                                  Wr w' (Addr.add a 4) [Value.bool false] fun w' =>
                                    ∃ a,
                                      p = some a ∧
                                        Wr w' (Addr.add a 5) [Value.int IntKind.i64 0] fun w' =>
                                          R
                                            (Ending.returned
                                              (Value.tuple #[Value.int IntKind.i64 n, Value.int IntKind.i64 0]))
                                            w'))) := by kernel_rfl
/-! (*davit/thread.Table).Exit -/
def M18 : Mt := { N := 28, keep := [(0, [0, 1]), (1, [0, 1, 6]), (2, [0, 1, 6, 14]), (3, [4]), (4, [0, 1]), (5, [4])], ords := [], bk := [], cuts := [], lk := [] }
noncomputable def c18 : Code := bodyOf Tryd.f18
theorem b18 : Tryd.f18.body = some c18 := by kernel_rfl
theorem n18 : Tryd.f18.ntmps = M18.N := by kernel_rfl
theorem u18 {p0_t : Option Addr} {p1_id : Int} {w : World} {R : Ending → World → Prop} (h : den Tryd.prog M18 c18 (argE 0 [(Value.pointer p0_t), (Value.int IntKind.i64 p1_id)]) w (retK Tryd.prog Tryd.f18.results.toList R)) : Calls Tryd.prog 18 #[(Value.pointer p0_t), (Value.int IntKind.i64 p1_id)] w R := calls_den okProg Tryd.func18 b18 n18 (Nat.le_of_ble_eq_true rfl) h
theorem t18 (p0_t : Option Addr) (p1_id : Int) (w : World) (R : Ending → World → Prop) : den Tryd.prog M18 c18 (argE 0 [(Value.pointer p0_t), (Value.int IntKind.i64 p1_id)]) w (retK Tryd.prog Tryd.f18.results.toList R) =
(Call Tryd.prog 30 [Value.pointer p0_t, Value.int IntKind.i64 p1_id] w fun e w' =>
  ∃ p n,
    e = Ending.returned (Value.tuple #[Value.pointer p, Value.int IntKind.i64 n]) ∧
      ((n != (0 : Int)) = true → R (Ending.returned (Value.int IntKind.i64 n)) w') ∧
        ((n != (0 : Int)) = false →
          ∃ a,
            p0_t = some a ∧
              ∃ r,
                World.cell? w' (Addr.add a 2) = some (Value.map r) ∧
                  ∃ w'_1,
                    Sem.run Tryd.prog
                          (Builtin.delete_ #[66, 3] 0
                            #[Value.map r, Value.int IntKind.i64 p1_id])
                          w' =
                        Result.ok (Value.tuple #[]) w'_1 ∧
                      ∃ a,
                        p0_t = some a ∧
                          ∃ p,
                            World.cell? w'_1 (Addr.add (Addr.add a 0) 0) = some (Value.pointer p) ∧
                              Call Tryd.prog 33 [Value.pointer p, Value.int IntKind.i64 p1_id] w'_1 fun e w' =>
                                ∃ n,
                                  e = Ending.returned (Value.int IntKind.i64 n) ∧
                                    R (Ending.returned (Value.int IntKind.i64 n)) w')) := by kernel_rfl
/-! (*davit/thread.Table).Aim -/
def M19 : Mt := { N := 28, keep := [(0, [0, 1, 2]), (1, [0, 2, 7, 8]), (2, [0, 2, 7, 8, 15]), (3, [6]), (4, [2, 7, 19]), (5, [6]), (6, []), (7, [6])], ords := [], bk := [(0, [2, 7])], cuts := [], lk := [] }
noncomputable def c19 : Code := bodyOf Tryd.f19
theorem b19 : Tryd.f19.body = some c19 := by kernel_rfl
theorem n19 : Tryd.f19.ntmps = M19.N := by kernel_rfl
theorem u19 {p0_t : Option Addr} {p1_id : Int} {p2_m : Int} {w : World} {R : Ending → World → Prop} (h : den Tryd.prog M19 c19 (argE 0 [(Value.pointer p0_t), (Value.int IntKind.i64 p1_id), (Value.int IntKind.u64 p2_m)]) w (retK Tryd.prog Tryd.f19.results.toList R)) : Calls Tryd.prog 19 #[(Value.pointer p0_t), (Value.int IntKind.i64 p1_id), (Value.int IntKind.u64 p2_m)] w R := calls_den okProg Tryd.func19 b19 n19 (Nat.le_of_ble_eq_true rfl) h
theorem t19 (p0_t : Option Addr) (p1_id : Int) (p2_m : Int) (w : World) (R : Ending → World → Prop) : den Tryd.prog M19 c19 (argE 0 [(Value.pointer p0_t), (Value.int IntKind.i64 p1_id), (Value.int IntKind.u64 p2_m)]) w (retK Tryd.prog Tryd.f19.results.toList R) =
(Call Tryd.prog 30 [Value.pointer p0_t, Value.int IntKind.i64 p1_id] w fun e w' =>
  ∃ p n,
    e = Ending.returned (Value.tuple #[Value.pointer p, Value.int IntKind.i64 n]) ∧
      ((n != (0 : Int)) = true → R (Ending.returned (Value.int IntKind.i64 n)) w') ∧
        ((n != (0 : Int)) = false →
          Call Tryd.prog 31 [Value.pointer p0_t, Value.int IntKind.u64 p2_m] w' fun e w' =>
            ∃ b,
              e = Ending.returned (Value.bool b) ∧
                ((!b) = true → R (Ending.returned (Value.int IntKind.i64 2)) w') ∧
                  ((!b) = false →
                    ∃ a,
                      p = some a ∧
                        Wr w' (Addr.add a 1) [Value.int IntKind.u64 p2_m] fun w' =>
                          R (Ending.returned (Value.int IntKind.i64 0)) w'))) := by kernel_rfl
/-! (*davit/thread.Table).Place -/
def M20 : Mt := { N := 40, keep := [(0, [0, 1, 2, 3]), (1, [0, 2, 3, 9, 10]), (2, [0, 2, 3, 9, 10, 17]), (3, [8]), (4, [2, 3, 9, 21]), (5, [8]), (6, []), (7, [8])], ords := [], bk := [(0, [2, 3, 9])], cuts := [], lk := [] }
noncomputable def c20 : Code := bodyOf Tryd.f20
theorem b20 : Tryd.f20.body = some c20 := by kernel_rfl
theorem n20 : Tryd.f20.ntmps = M20.N := by kernel_rfl
theorem u20 {p0_t : Option Addr} {p1_id : Int} {p2_cpu : Int} {p3_forced : Bool} {w : World} {R : Ending → World → Prop} (h : den Tryd.prog M20 c20 (argE 0 [(Value.pointer p0_t), (Value.int IntKind.i64 p1_id), (Value.int IntKind.i64 p2_cpu), (Value.bool p3_forced)]) w (retK Tryd.prog Tryd.f20.results.toList R)) : Calls Tryd.prog 20 #[(Value.pointer p0_t), (Value.int IntKind.i64 p1_id), (Value.int IntKind.i64 p2_cpu), (Value.bool p3_forced)] w R := calls_den okProg Tryd.func20 b20 n20 (Nat.le_of_ble_eq_true rfl) h
theorem t20 (p0_t : Option Addr) (p1_id : Int) (p2_cpu : Int) (p3_forced : Bool) (w : World) (R : Ending → World → Prop) : den Tryd.prog M20 c20 (argE 0 [(Value.pointer p0_t), (Value.int IntKind.i64 p1_id), (Value.int IntKind.i64 p2_cpu), (Value.bool p3_forced)]) w (retK Tryd.prog Tryd.f20.results.toList R) =
(Call Tryd.prog 30 [Value.pointer p0_t, Value.int IntKind.i64 p1_id] w fun e w' =>
  ∃ p n,
    e = Ending.returned (Value.tuple #[Value.pointer p, Value.int IntKind.i64 n]) ∧
      ((n != (0 : Int)) = true → R (Ending.returned (Value.int IntKind.i64 n)) w') ∧
        ((n != (0 : Int)) = false →
          (decide (p2_cpu < (0 : Int)) = false →
              ∃ a,
                p0_t = some a ∧
                  ∃ n,
                    World.cell? w' (Addr.add a 1) = some (Value.int IntKind.i64 n) ∧
                      (decide (p2_cpu ≥ n) = true → R (Ending.returned (Value.int IntKind.i64 3)) w') ∧
                        (decide (p2_cpu ≥ n) = false →
                          ∃ a,
                            p = some a ∧
                              Wr w' (Addr.add a 2) [Value.int IntKind.i64 p2_cpu] fun w' =>
                                ∃ a,
                                  p = some a ∧
                                    Wr w' (Addr.add a 3) [Value.bool p3_forced] fun w' =>
                                      R (Ending.returned (Value.int IntKind.i64 0)) w')) ∧
            (decide (p2_cpu < (0 : Int)) = true → R (Ending.returned (Value.int IntKind.i64 3)) w'))) := by kernel_rfl
/-! (*davit/thread.Table).Sleep -/
def M21 : Mt := { N := 31, keep := [(0, [0, 1, 2]), (1, [2, 7, 8]), (2, [2, 7, 8, 15]), (3, [6]), (4, [2, 7, 19]), (5, [6]), (6, []), (7, [6])], ords := [], bk := [(0, [2, 7])], cuts := [], lk := [] }
noncomputable def c21 : Code := bodyOf Tryd.f21
theorem b21 : Tryd.f21.body = some c21 := by kernel_rfl
theorem n21 : Tryd.f21.ntmps = M21.N := by kernel_rfl
theorem u21 {p0_t : Option Addr} {p1_id : Int} {p2_timer : Int} {w : World} {R : Ending → World → Prop} (h : den Tryd.prog M21 c21 (argE 0 [(Value.pointer p0_t), (Value.int IntKind.i64 p1_id), (Value.int IntKind.i64 p2_timer)]) w (retK Tryd.prog Tryd.f21.results.toList R)) : Calls Tryd.prog 21 #[(Value.pointer p0_t), (Value.int IntKind.i64 p1_id), (Value.int IntKind.i64 p2_timer)] w R := calls_den okProg Tryd.func21 b21 n21 (Nat.le_of_ble_eq_true rfl) h
theorem t21 (p0_t : Option Addr) (p1_id : Int) (p2_timer : Int) (w : World) (R : Ending → World → Prop) : den Tryd.prog M21 c21 (argE 0 [(Value.pointer p0_t), (Value.int IntKind.i64 p1_id), (Value.int IntKind.i64 p2_timer)]) w (retK Tryd.prog Tryd.f21.results.toList R) =
(Call Tryd.prog 30 [Value.pointer p0_t, Value.int IntKind.i64 p1_id] w fun e w' =>
  ∃ p n,
    e = Ending.returned (Value.tuple #[Value.pointer p, Value.int IntKind.i64 n]) ∧
      ((n != (0 : Int)) = true → R (Ending.returned (Value.int IntKind.i64 n)) w') ∧
        ((n != (0 : Int)) = false →
          ∃ a,
            p = some a ∧
              ∃ b,
                World.cell? w' (Addr.add a 4) = some (Value.bool b) ∧
                  (b = true → R (Ending.returned (Value.int IntKind.i64 6)) w') ∧
                    (b = false →
                      ∃ a,
                        p = some a ∧
                          Wr w' (Addr.add a 4) [Value.bool true] fun w' =>
                            ∃ a,
                              p = some a ∧
                                Wr w' (Addr.add a 5) [Value.int IntKind.i64 p2_timer] fun w' =>
                                  R (Ending.returned (Value.int IntKind.i64 0)) w'))) := by kernel_rfl
/-! davit/slot.New -/
def M22 : Mt := { N := 18, keep := [(0, [0]), (1, [0, 9]), (2, [2, 3]), (3, [2, 3])], ords := [], bk := [], cuts := [], lk := [] }
noncomputable def c22 : Code := bodyOf Tryd.f22
theorem b22 : Tryd.f22.body = some c22 := by kernel_rfl
theorem n22 : Tryd.f22.ntmps = M22.N := by kernel_rfl
theorem u22 {p0_most : Int} {w : World} {R : Ending → World → Prop} (h : den Tryd.prog M22 c22 (argE 0 [(Value.int IntKind.i64 p0_most)]) w (retK Tryd.prog Tryd.f22.results.toList R)) : Calls Tryd.prog 22 #[(Value.int IntKind.i64 p0_most)] w R := calls_den okProg Tryd.func22 b22 n22 (Nat.le_of_ble_eq_true rfl) h
theorem t22 (p0_most : Int) (w : World) (R : Ending → World → Prop) : den Tryd.prog M22 c22 (argE 0 [(Value.int IntKind.i64 p0_most)]) w (retK Tryd.prog Tryd.f22.results.toList R) =
((decide (p0_most < (1 : Int)) = false →
    (decide (p0_most > (1024 : Int)) = true →
        R (Ending.returned (Value.tuple #[Value.pointer none, Value.int IntKind.i64 2])) w) ∧
      (decide (p0_most > (1024 : Int)) = false →
        (64 : Int) ≠ (0 : Int) ∧
          ∃ p n c w',
            Sem.run Tryd.prog
                  (Instr.makeSlice 76
                    (Value.int IntKind.i64
                      (IntKind.wrap IntKind.i64
                        (Int.tdiv
                          (IntKind.wrap IntKind.i64 (IntKind.wrap IntKind.i64 (p0_most + (64 : Int)) - (1 : Int)))
                          (64 : Int))))
                    (Value.int IntKind.i64
                      (IntKind.wrap IntKind.i64
                        (Int.tdiv
                          (IntKind.wrap IntKind.i64 (IntKind.wrap IntKind.i64 (p0_most + (64 : Int)) - (1 : Int)))
                          (64 : Int)))))
                  w =
                Result.ok (Value.slice p n c) w' ∧
              New w' [Value.slice p n c, Value.int IntKind.i64 p0_most, Value.int IntKind.i64 0] 78
                fun p w' =>
                R (Ending.returned (Value.tuple #[Value.pointer (some p), Value.int IntKind.i64 0])) w')) ∧
  (decide (p0_most < (1 : Int)) = true →
    R (Ending.returned (Value.tuple #[Value.pointer none, Value.int IntKind.i64 2])) w)) := by kernel_rfl
/-! (*davit/davitref11.Table).Spawn -/
def M23 : Mt := { N := 82, keep := [(0, [0, 1, 2]), (1, [0, 1, 2, 25]), (2, [6, 7]), (3, [0, 1, 2, 31]), (4, [6, 7]), (5, [0, 1, 2, 8]), (6, [0, 1, 2, 8, 9]), (7, [0, 1, 2, 8, 9, 50]), (8, [0, 1, 2, 8, 9]), (9, [0, 1, 2, 8, 9]), (10, [0, 1, 2, 8, 9, 10]), (11, [0, 1, 2, 8, 9, 10]), (12, [0, 8, 9, 10]), (13, [8]), (14, [6, 7])], ords := [], bk := [(0, [0, 1, 2, 8, 9]), (1, [0, 1, 2, 8, 9])], cuts := [(10, [0, 1, 2, 8, 9])], lk := [(7, [0, 1, 2, 8, 9])] }
noncomputable def c23 : Code := bodyOf Tryd.f23
noncomputable def c23_0 : Code := c23.sr.sr.sr.sr.sr.sr
noncomputable def c23_1 : Code := c23.sr.sr.sr.sr.sr.sl.sl.sl
def e23_0 (p0_t : Option Addr) (p1_prio : Int) (p2_m : Int) (p8_id : Int) (p9_at : Int) : Env := [(0, SV.v (Value.pointer p0_t)), (1, SV.v (Value.int IntKind.i64 p1_prio)), (2, SV.v (Value.int IntKind.u64 p2_m)), (8, SV.v (Value.int IntKind.i64 p8_id)), (9, SV.v (Value.int IntKind.i64 p9_at))]
def e23_1 (p0_t : Option Addr) (p1_prio : Int) (p2_m : Int) (p8_id : Int) (p9_at : Int) : Env := [(0, SV.v (Value.pointer p0_t)), (1, SV.v (Value.int IntKind.i64 p1_prio)), (2, SV.v (Value.int IntKind.u64 p2_m)), (8, SV.v (Value.int IntKind.i64 p8_id)), (9, SV.v (Value.int IntKind.i64 p9_at))]
def k23_0 (R : Ending → World → Prop) : Cont := retK Tryd.prog Tryd.f23.results.toList R
def k23_1 (R : Ending → World → Prop) : Cont := blockK 0 [0, 1, 2, 8, 9] (seqK (fun E w => cutB (findL M23.cuts (headReg c23_0)) Tryd.prog M23 c23_0 E w (retK Tryd.prog Tryd.f23.results.toList R) fun E => den Tryd.prog M23 c23_0 E w (retK Tryd.prog Tryd.f23.results.toList R)) (retK Tryd.prog Tryd.f23.results.toList R))
theorem b23 : Tryd.f23.body = some c23 := by kernel_rfl
theorem n23 : Tryd.f23.ntmps = M23.N := by kernel_rfl
theorem u23 {p0_t : Option Addr} {p1_prio : Int} {p2_m : Int} {w : World} {R : Ending → World → Prop} (h : den Tryd.prog M23 c23 (argE 0 [(Value.pointer p0_t), (Value.int IntKind.i64 p1_prio), (Value.int IntKind.u64 p2_m)]) w (retK Tryd.prog Tryd.f23.results.toList R)) : Calls Tryd.prog 23 #[(Value.pointer p0_t), (Value.int IntKind.i64 p1_prio), (Value.int IntKind.u64 p2_m)] w R := calls_den okProg Tryd.func23 b23 n23 (Nat.le_of_ble_eq_true rfl) h
theorem t23 (p0_t : Option Addr) (p1_prio : Int) (p2_m : Int) (w : World) (R : Ending → World → Prop) : den Tryd.prog M23 c23 (argE 0 [(Value.pointer p0_t), (Value.int IntKind.i64 p1_prio), (Value.int IntKind.u64 p2_m)]) w (retK Tryd.prog Tryd.f23.results.toList R) =
((decide (p1_prio < (0 : Int)) = false →
    (decide (p1_prio ≥ (8 : Int)) = false →
        ∃ a,
          p0_t = some a ∧
            ∃ n,
              World.cell? w (Addr.add a 0) = some (Value.int IntKind.i64 n) ∧
                Call Tryd.prog 34 [Value.int IntKind.i64 n, Value.int IntKind.u64 p2_m] w fun e w' =>
                  ∃ b,
                    e = Ending.returned (Value.bool b) ∧
                      ((!b) = true →
                          R
                            (Ending.returned
                              (Value.tuple #[Value.int IntKind.i64 0, Value.int IntKind.i64 2]))
                            w') ∧
                        ((!b) = false →
                          ∃ a,
                            p0_t = some a ∧
                              ∃ p n c,
                                World.cell? w' (Addr.add a 1) = some (Value.slice p n c) ∧
                                  (decide ((↑n : Int) ≥ (32 : Int)) = true →
                                      R
                                        (Ending.returned
                                          (Value.tuple
                                            #[Value.int IntKind.i64 0, Value.int IntKind.i64 5]))
                                        w') ∧
                                    (decide ((↑n : Int) ≥ (32 : Int)) = false →
                                      Cut
                                        (WP Tryd.prog 82 (Code.loop c23_1)
                                          (e23_1 p0_t p1_prio p2_m (1 : Int) (0 : Int)) w' (k23_1 R))))) ∧
      (decide (p1_prio ≥ (8 : Int)) = true →
        R (Ending.returned (Value.tuple #[Value.int IntKind.i64 0, Value.int IntKind.i64 2])) w)) ∧
  (decide (p1_prio < (0 : Int)) = true →
    R (Ending.returned (Value.tuple #[Value.int IntKind.i64 0, Value.int IntKind.i64 2])) w)) := by kernel_rfl
theorem t23_0 (p0_t : Option Addr) (p1_prio : Int) (p2_m : Int) (p8_id : Int) (p9_at : Int) (w : World) (R : Ending → World → Prop) : den Tryd.prog M23 c23_0 (e23_0 p0_t p1_prio p2_m p8_id p9_at) w (k23_0 R) =
(∃ a,
  p0_t = some a ∧
    ∃ p n c,
      World.cell? w (Addr.add a 1) = some (Value.slice p n c) ∧
        ((0 : Int) ≤ p9_at ∧ p9_at ≤ (↑c : Int)) ∧
          ∃ p_1 n c_1 w',
            Sem.run Tryd.prog
                  (Builtin.append_ #[47, 47] 47
                    #[Value.slice none 0 0,
                      Value.slice (subA p c 0 7) (Int.toNat p9_at - 0) (c - 0)])
                  w =
                Result.ok (Value.slice p_1 n c_1) w' ∧
              New w'
                [Value.int IntKind.i64 p8_id, Value.int IntKind.i64 p1_prio, Value.int IntKind.u64 p2_m,
                  Value.int IntKind.i64 0, Value.bool false, Value.bool false, Value.int IntKind.i64 0]
                46 fun p w' =>
                ∃ p_2 n_1 c w'_1,
                  Sem.run Tryd.prog
                        (Builtin.append_ #[47, 47] 47
                          #[Value.slice p_1 n c_1, Value.slice (some p) 1 1])
                        w' =
                      Result.ok (Value.slice p_2 n_1 c) w'_1 ∧
                    ∃ a,
                      p0_t = some a ∧
                        ∃ p n c_2,
                          World.cell? w'_1 (Addr.add a 1) = some (Value.slice p n c_2) ∧
                            ((0 : Int) ≤ p9_at ∧ p9_at ≤ (↑n : Int)) ∧
                              ∃ p_3 n_2 c_3 w',
                                Sem.run Tryd.prog
                                      (Builtin.append_ #[47, 47] 47
                                        #[Value.slice p_2 n_1 c,
                                          Value.slice (subA p c_2 (Int.toNat p9_at) 7) (n - Int.toNat p9_at)
                                            (c_2 - Int.toNat p9_at)])
                                      w'_1 =
                                    Result.ok (Value.slice p_3 n_2 c_3) w' ∧
                                  ∃ a,
                                    p0_t = some a ∧
                                      Wr w' (Addr.add a 1) [Value.slice p_3 n_2 c_3] fun w' =>
                                        R
                                          (Ending.returned
                                            (Value.tuple
                                              #[Value.int IntKind.i64 p8_id, Value.int IntKind.i64 0]))
                                          w') := by kernel_rfl
theorem t23_1 (p0_t : Option Addr) (p1_prio : Int) (p2_m : Int) (p8_id : Int) (p9_at : Int) (w : World) (B23_1 : Env → World → Prop) (R : Ending → World → Prop) : den Tryd.prog M23 c23_1 (e23_1 p0_t p1_prio p2_m p8_id p9_at) w (loopK B23_1 (k23_1 R)) =
(∃ a,
  p0_t = some a ∧
    ∃ p n c,
      World.cell? w (Addr.add a 1) = some (Value.slice p n c) ∧
        (decide (p9_at < (↑n : Int)) = true →
            ∃ a,
              p0_t = some a ∧
                ∃ p n c,
                  World.cell? w (Addr.add a 1) = some (Value.slice p n c) ∧
                    ((0 : Int) ≤ p9_at ∧ p9_at < (↑n : Int)) ∧
                      ∃ a,
                        p = some a ∧
                          ∃ n,
                            World.cell? w (Addr.add (Addr.add a (Int.toNat p9_at * 7)) 0) =
                                some (Value.int IntKind.i64 n) ∧
                              ((n == p8_id) = true →
                                  B23_1
                                    [(0, SV.v (Value.pointer p0_t)),
                                      (1, SV.v (Value.int IntKind.i64 p1_prio)),
                                      (2, SV.v (Value.int IntKind.u64 p2_m)),
                                      (8,
                                        SV.v (Value.int IntKind.i64 (IntKind.wrap IntKind.i64 (p8_id + (1 : Int))))),
                                      (9,
                                        SV.v (Value.int IntKind.i64 (IntKind.wrap IntKind.i64 (p9_at + (1 : Int)))))]
                                    w) ∧
                                ((n == p8_id) = false →
                                  CutD Tryd.prog M23 c23_0 (e23_0 p0_t p1_prio p2_m p8_id p9_at) w (k23_0 R))) ∧
          (decide (p9_at < (↑n : Int)) = false →
            CutD Tryd.prog M23 c23_0 (e23_0 p0_t p1_prio p2_m p8_id p9_at) w (k23_0 R))) := by kernel_rfl
/-! (*davit/davitref11.Table).Exit -/
def M24 : Mt := { N := 32, keep := [(0, [0, 1]), (1, [0, 5]), (2, [0, 5, 11]), (3, [4]), (4, [0, 5, 6]), (5, [0, 5, 6]), (6, []), (7, [4])], ords := [], bk := [], cuts := [], lk := [] }
noncomputable def c24 : Code := bodyOf Tryd.f24
theorem b24 : Tryd.f24.body = some c24 := by kernel_rfl
theorem n24 : Tryd.f24.ntmps = M24.N := by kernel_rfl
theorem u24 {p0_t : Option Addr} {p1_id : Int} {w : World} {R : Ending → World → Prop} (h : den Tryd.prog M24 c24 (argE 0 [(Value.pointer p0_t), (Value.int IntKind.i64 p1_id)]) w (retK Tryd.prog Tryd.f24.results.toList R)) : Calls Tryd.prog 24 #[(Value.pointer p0_t), (Value.int IntKind.i64 p1_id)] w R := calls_den okProg Tryd.func24 b24 n24 (Nat.le_of_ble_eq_true rfl) h
theorem t24 (p0_t : Option Addr) (p1_id : Int) (w : World) (R : Ending → World → Prop) : den Tryd.prog M24 c24 (argE 0 [(Value.pointer p0_t), (Value.int IntKind.i64 p1_id)]) w (retK Tryd.prog Tryd.f24.results.toList R) =
(Call Tryd.prog 14 [Value.pointer p0_t, Value.int IntKind.i64 p1_id] w fun e w' =>
  ∃ n,
    e = Ending.returned (Value.int IntKind.i64 n) ∧
      (decide (n < (0 : Int)) = true → R (Ending.returned (Value.int IntKind.i64 4)) w') ∧
        (decide (n < (0 : Int)) = false →
          ∃ a,
            p0_t = some a ∧
              ∃ p n_1 c,
                World.cell? w' (Addr.add a 1) = some (Value.slice p n_1 c) ∧
                  ((0 : Int) ≤ n ∧ n ≤ (↑c : Int)) ∧
                    ∃ p_1 n_2 c_1 w'_1,
                      Sem.run Tryd.prog
                            (Builtin.append_ #[47, 47] 47
                              #[Value.slice none 0 0,
                                Value.slice (subA p c 0 7) (Int.toNat n - 0) (c - 0)])
                            w' =
                          Result.ok (Value.slice p_1 n_2 c_1) w'_1 ∧
                        ∃ a,
                          p0_t = some a ∧
                            ∃ p n_3 c,
                              World.cell? w'_1 (Addr.add a 1) = some (Value.slice p n_3 c) ∧
                                ((0 : Int) ≤ IntKind.wrap IntKind.i64 (n + (1 : Int)) ∧
                                    IntKind.wrap IntKind.i64 (n + (1 : Int)) ≤ (↑n_3 : Int)) ∧
                                  ∃ p_2 n_4 c_2 w',
                                    Sem.run Tryd.prog
                                          (Builtin.append_ #[47, 47] 47
                                            #[Value.slice p_1 n_2 c_1,
                                              Value.slice
                                                (subA p c (Int.toNat (IntKind.wrap IntKind.i64 (n + (1 : Int))))
                                                  7)
                                                (n_3 - Int.toNat (IntKind.wrap IntKind.i64 (n + (1 : Int))))
                                                (c - Int.toNat (IntKind.wrap IntKind.i64 (n + (1 : Int))))])
                                          w'_1 =
                                        Result.ok (Value.slice p_2 n_4 c_2) w' ∧
                                      ∃ a,
                                        p0_t = some a ∧
                                          Wr w' (Addr.add a 1) [Value.slice p_2 n_4 c_2] fun w' =>
                                            R (Ending.returned (Value.int IntKind.i64 0)) w')) := by kernel_rfl
/-! (*davit/davitref11.Table).Aim -/
def M25 : Mt := { N := 28, keep := [(0, [0, 1, 2]), (1, [0, 2, 7]), (2, [0, 2, 7, 12]), (3, [6]), (4, [0, 2, 7, 19]), (5, [6]), (6, []), (7, [6])], ords := [], bk := [], cuts := [], lk := [] }
noncomputable def c25 : Code := bodyOf Tryd.f25
theorem b25 : Tryd.f25.body = some c25 := by kernel_rfl
theorem n25 : Tryd.f25.ntmps = M25.N := by kernel_rfl
theorem u25 {p0_t : Option Addr} {p1_id : Int} {p2_m : Int} {w : World} {R : Ending → World → Prop} (h : den Tryd.prog M25 c25 (argE 0 [(Value.pointer p0_t), (Value.int IntKind.i64 p1_id), (Value.int IntKind.u64 p2_m)]) w (retK Tryd.prog Tryd.f25.results.toList R)) : Calls Tryd.prog 25 #[(Value.pointer p0_t), (Value.int IntKind.i64 p1_id), (Value.int IntKind.u64 p2_m)] w R := calls_den okProg Tryd.func25 b25 n25 (Nat.le_of_ble_eq_true rfl) h
theorem t25 (p0_t : Option Addr) (p1_id : Int) (p2_m : Int) (w : World) (R : Ending → World → Prop) : den Tryd.prog M25 c25 (argE 0 [(Value.pointer p0_t), (Value.int IntKind.i64 p1_id), (Value.int IntKind.u64 p2_m)]) w (retK Tryd.prog Tryd.f25.results.toList R) =
(Call Tryd.prog 14 [Value.pointer p0_t, Value.int IntKind.i64 p1_id] w fun e w' =>
  ∃ n,
    e = Ending.returned (Value.int IntKind.i64 n) ∧
      (decide (n < (0 : Int)) = true → R (Ending.returned (Value.int IntKind.i64 4)) w') ∧
        (decide (n < (0 : Int)) = false →
          ∃ a,
            p0_t = some a ∧
              ∃ n_1,
                World.cell? w' (Addr.add a 0) = some (Value.int IntKind.i64 n_1) ∧
                  Call Tryd.prog 34 [Value.int IntKind.i64 n_1, Value.int IntKind.u64 p2_m] w' fun e w' =>
                    ∃ b,
                      e = Ending.returned (Value.bool b) ∧
                        ((!b) = true → R (Ending.returned (Value.int IntKind.i64 2)) w') ∧
                          ((!b) = false →
                            ∃ a,
                              p0_t = some a ∧
                                ∃ p n_2 c,
                                  World.cell? w' (Addr.add a 1) = some (Value.slice p n_2 c) ∧
                                    ((0 : Int) ≤ n ∧ n < (↑n_2 : Int)) ∧
                                      ∃ a,
                                        p = some a ∧
                                          Wr w' (Addr.add (Addr.add a (Int.toNat n * 7)) 2)
                                            [Value.int IntKind.u64 p2_m] fun w' =>
                                            R (Ending.returned (Value.int IntKind.i64 0)) w'))) := by kernel_rfl
/-! (*davit/davitref11.Table).Place -/
def M26 : Mt := { N := 41, keep := [(0, [0, 1, 2, 3]), (1, [0, 2, 3, 9]), (2, [0, 2, 3, 9, 14]), (3, [8]), (4, [0, 2, 3, 9, 24]), (5, [8]), (6, [0, 3, 9]), (7, []), (8, [8])], ords := [], bk := [], cuts := [], lk := [] }
noncomputable def c26 : Code := bodyOf Tryd.f26
theorem b26 : Tryd.f26.body = some c26 := by kernel_rfl
theorem n26 : Tryd.f26.ntmps = M26.N := by kernel_rfl
theorem u26 {p0_t : Option Addr} {p1_id : Int} {p2_cpu : Int} {p3_forced : Bool} {w : World} {R : Ending → World → Prop} (h : den Tryd.prog M26 c26 (argE 0 [(Value.pointer p0_t), (Value.int IntKind.i64 p1_id), (Value.int IntKind.i64 p2_cpu), (Value.bool p3_forced)]) w (retK Tryd.prog Tryd.f26.results.toList R)) : Calls Tryd.prog 26 #[(Value.pointer p0_t), (Value.int IntKind.i64 p1_id), (Value.int IntKind.i64 p2_cpu), (Value.bool p3_forced)] w R := calls_den okProg Tryd.func26 b26 n26 (Nat.le_of_ble_eq_true rfl) h
theorem t26 (p0_t : Option Addr) (p1_id : Int) (p2_cpu : Int) (p3_forced : Bool) (w : World) (R : Ending → World → Prop) : den Tryd.prog M26 c26 (argE 0 [(Value.pointer p0_t), (Value.int IntKind.i64 p1_id), (Value.int IntKind.i64 p2_cpu), (Value.bool p3_forced)]) w (retK Tryd.prog Tryd.f26.results.toList R) =
(Call Tryd.prog 14 [Value.pointer p0_t, Value.int IntKind.i64 p1_id] w fun e w' =>
  ∃ n,
    e = Ending.returned (Value.int IntKind.i64 n) ∧
      (decide (n < (0 : Int)) = true → R (Ending.returned (Value.int IntKind.i64 4)) w') ∧
        (decide (n < (0 : Int)) = false →
          (decide (p2_cpu < (0 : Int)) = false →
              ∃ a,
                p0_t = some a ∧
                  ∃ n_1,
                    World.cell? w' (Addr.add a 0) = some (Value.int IntKind.i64 n_1) ∧
                      (decide (p2_cpu ≥ n_1) = true → R (Ending.returned (Value.int IntKind.i64 3)) w') ∧
                        (decide (p2_cpu ≥ n_1) = false →
                          ∃ a,
                            p0_t = some a ∧
                              ∃ p n_2 c,
                                World.cell? w' (Addr.add a 1) = some (Value.slice p n_2 c) ∧
                                  ((0 : Int) ≤ n ∧ n < (↑n_2 : Int)) ∧
                                    ∃ a,
                                      p = some a ∧
                                        Wr w' (Addr.add (Addr.add a (Int.toNat n * 7)) 3)
                                          [Value.int IntKind.i64 p2_cpu] fun w' =>
                                          ∃ a,
                                            p0_t = some a ∧
                                              ∃ p n_3 c,
                                                World.cell? w' (Addr.add a 1) = some (Value.slice p n_3 c) ∧
                                                  ((0 : Int) ≤ n ∧ n < (↑n_3 : Int)) ∧
                                                    ∃ a,
                                                      p = some a ∧
                                                        Wr w'
                                                          (Addr.add (Addr.add a (Int.toNat n * 7)) 4)
                                                          [Value.bool p3_forced] fun w' =>
                                                          R (Ending.returned (Value.int IntKind.i64 0)) w')) ∧
            (decide (p2_cpu < (0 : Int)) = true → R (Ending.returned (Value.int IntKind.i64 3)) w'))) := by kernel_rfl
/-! (*davit/davitref11.Table).Sleep -/
def M27 : Mt := { N := 36, keep := [(0, [0, 1, 2]), (1, [0, 2, 7]), (2, [0, 2, 7, 12]), (3, [6]), (4, [0, 2, 7, 20]), (5, [6]), (6, [0, 2, 7]), (7, []), (8, [6])], ords := [], bk := [], cuts := [], lk := [] }
noncomputable def c27 : Code := bodyOf Tryd.f27
theorem b27 : Tryd.f27.body = some c27 := by kernel_rfl
theorem n27 : Tryd.f27.ntmps = M27.N := by kernel_rfl
theorem u27 {p0_t : Option Addr} {p1_id : Int} {p2_timer : Int} {w : World} {R : Ending → World → Prop} (h : den Tryd.prog M27 c27 (argE 0 [(Value.pointer p0_t), (Value.int IntKind.i64 p1_id), (Value.int IntKind.i64 p2_timer)]) w (retK Tryd.prog Tryd.f27.results.toList R)) : Calls Tryd.prog 27 #[(Value.pointer p0_t), (Value.int IntKind.i64 p1_id), (Value.int IntKind.i64 p2_timer)] w R := calls_den okProg Tryd.func27 b27 n27 (Nat.le_of_ble_eq_true rfl) h
theorem t27 (p0_t : Option Addr) (p1_id : Int) (p2_timer : Int) (w : World) (R : Ending → World → Prop) : den Tryd.prog M27 c27 (argE 0 [(Value.pointer p0_t), (Value.int IntKind.i64 p1_id), (Value.int IntKind.i64 p2_timer)]) w (retK Tryd.prog Tryd.f27.results.toList R) =
(Call Tryd.prog 14 [Value.pointer p0_t, Value.int IntKind.i64 p1_id] w fun e w' =>
  ∃ n,
    e = Ending.returned (Value.int IntKind.i64 n) ∧
      (decide (n < (0 : Int)) = true → R (Ending.returned (Value.int IntKind.i64 4)) w') ∧
        (decide (n < (0 : Int)) = false →
          ∃ a,
            p0_t = some a ∧
              ∃ p n_1 c,
                World.cell? w' (Addr.add a 1) = some (Value.slice p n_1 c) ∧
                  ((0 : Int) ≤ n ∧ n < (↑n_1 : Int)) ∧
                    ∃ a,
                      p = some a ∧
                        ∃ b,
                          World.cell? w' (Addr.add (Addr.add a (Int.toNat n * 7)) 5) =
                              some (Value.bool b) ∧
                            (b = true → R (Ending.returned (Value.int IntKind.i64 6)) w') ∧
                              (b = false →
                                ∃ a,
                                  p0_t = some a ∧
                                    ∃ p n_2 c,
                                      World.cell? w' (Addr.add a 1) = some (Value.slice p n_2 c) ∧
                                        ((0 : Int) ≤ n ∧ n < (↑n_2 : Int)) ∧
                                          ∃ a,
                                            p = some a ∧
                                              Wr w' (Addr.add (Addr.add a (Int.toNat n * 7)) 5)
                                                [Value.bool true] fun w' =>
                                                ∃ a,
                                                  p0_t = some a ∧
                                                    ∃ p n_3 c,
                                                      World.cell? w' (Addr.add a 1) =
                                                          some (Value.slice p n_3 c) ∧
                                                        ((0 : Int) ≤ n ∧ n < (↑n_3 : Int)) ∧
                                                          ∃ a,
                                                            p = some a ∧
                                                              Wr w'
                                                                (Addr.add (Addr.add a (Int.toNat n * 7))
                                                                  6)
                                                                [Value.int IntKind.i64 p2_timer] fun w' =>
                                                                R (Ending.returned (Value.int IntKind.i64 0))
                                                                  w'))) := by kernel_rfl
/-! (*davit/davitref11.Table).Wake -/
def M28 : Mt := { N := 45, keep := [(0, [0, 1]), (1, [0, 6]), (2, [0, 6, 12]), (3, [4, 5]), (4, [0, 6, 21]), (5, [4, 5]), (6, [0, 6, 7]), (7, [0, 6, 7]), (8, [7]), (9, [4, 5])], ords := [], bk := [], cuts := [], lk := [] }
noncomputable def c28 : Code := bodyOf Tryd.f28
theorem b28 : Tryd.f28.body = some c28 := by kernel_rfl
theorem n28 : Tryd.f28.ntmps = M28.N := by kernel_rfl
theorem u28 {p0_t : Option Addr} {p1_id : Int} {w : World} {R : Ending → World → Prop} (h : den Tryd.prog M28 c28 (argE 0 [(Value.pointer p0_t), (Value.int IntKind.i64 p1_id)]) w (retK Tryd.prog Tryd.f28.results.toList R)) : Calls Tryd.prog 28 #[(Value.pointer p0_t), (Value.int IntKind.i64 p1_id)] w R := calls_den okProg Tryd.func28 b28 n28 (Nat.le_of_ble_eq_true rfl) h
theorem t28 (p0_t : Option Addr) (p1_id : Int) (w : World) (R : Ending → World → Prop) : den Tryd.prog M28 c28 (argE 0 [(Value.pointer p0_t), (Value.int IntKind.i64 p1_id)]) w (retK Tryd.prog Tryd.f28.results.toList R) =
(Call Tryd.prog 14 [Value.pointer p0_t, Value.int IntKind.i64 p1_id] w fun e w' =>
  ∃ n,
    e = Ending.returned (Value.int IntKind.i64 n) ∧
      (decide (n < (0 : Int)) = true →
          R (Ending.returned (Value.tuple #[Value.int IntKind.i64 0, Value.int IntKind.i64 4])) w') ∧
        (decide (n < (0 : Int)) = false →
          ∃ a,
            p0_t = some a ∧
              ∃ p n_1 c,
                World.cell? w' (Addr.add a 1) = some (Value.slice p n_1 c) ∧
                  ((0 : Int) ≤ n ∧ n < (↑n_1 : Int)) ∧
                    ∃ a,
                      p = some a ∧
                        ∃ b,
                          World.cell? w' (Addr.add (Addr.add a (Int.toNat n * 7)) 5) =
                              some (Value.bool b) ∧
                            ((!b) = true →
                                R
                                  (Ending.returned
                                    (Value.tuple #[Value.int IntKind.i64 0, Value.int IntKind.i64 6]))
                                  w') ∧
                              ((!b) = false →
                                ∃ a,
                                  p0_t = some a ∧
                                    ∃ p n_2 c,
                                      World.cell? w' (Addr.add a 1) = some (Value.slice p n_2 c) ∧
                                        ((0 : Int) ≤ n ∧ n < (↑n_2 : Int)) ∧
                                          ∃ a,
                                            p = some a ∧
                                              ∃ n_3,
                                                World.cell? w'
                                                      (Addr.add (Addr.add a (Int.toNat n * 7)) 6) =
                                                    some (Value.int IntKind.i64 n_3) ∧
                                                  ∃ a,
                                                    p0_t = some a ∧
                                                      ∃ p n_4 c,
                                                        World.cell? w' (Addr.add a 1) =
                                                            some (Value.slice p n_4 c) ∧
                                                          ((0 : Int) ≤ n ∧ n < (↑n_4 : Int)) ∧
                                                            ∃ a,
                                                              p = some a ∧
                                                                Wr w'
                                                                  (Addr.add (Addr.add a (Int.toNat n * 7))
                                                                    5)
                                                                  [Value.bool false] fun w' =>
                                                                  ∃ a,
                                                                    p0_t = some a ∧
                                                                      ∃ p n_5 c,
                                                                        World.cell? w' (Addr.add a 1) =
                                                                            some (Value.slice p n_5 c) ∧
                                                                          ((0 : Int) ≤ n ∧ n < (↑n_5 : Int)) ∧
                                                                            ∃ a,
                                                                              p = some a ∧
                                                                                Wr w'
                                                                                  (Addr.add
                                                                                    (Addr.add a
                                                                                      (Int.toNat n * 7))
                                                                                    6)
                                                                                  [Value.int IntKind.i64 0]
                                                                                  fun w' =>
                                                                                  R
                                                                                    (Ending.returned
                                                                                      (Value.tuple
                                                                                        #[Value.int IntKind.i64 n_3,
                                                                                          Value.int IntKind.i64
                                                                                            (0 : Int)]))
                                                                                    w'))) := by kernel_rfl
/-! (*davit/slot.Table).List -/
def M29 : Mt := { N := 21, keep := [(0, [0]), (1, [0, 3]), (2, [0, 3, 6, 7]), (3, [0, 3, 6, 7, 8]), (4, [0, 3, 4, 6, 7]), (5, [0, 3, 4, 6, 7, 13]), (6, [0, 3, 6, 7]), (7, [0, 3, 6, 7]), (8, [2])], ords := [], bk := [(0, [3]), (1, [0, 3, 6, 7])], cuts := [], lk := [(3, [0, 3, 6, 7])] }
noncomputable def c29 : Code := bodyOf Tryd.f29
noncomputable def c29_0 : Code := c29.sr.sr.sr
noncomputable def c29_1 : Code := c29.sr.sr.sl.sr.sl.sl
def e29_1 (p0_t : Option Addr) (p3_l_a : Option Addr) (p3_l_n : Nat) (p3_l_c : Nat) (p6_t : Int) (p7_t : Int) : Env := [(0, SV.v (Value.pointer p0_t)), (3, SV.v (Value.slice p3_l_a p3_l_n p3_l_c)), (6, SV.v (Value.int IntKind.i64 p6_t)), (7, SV.v (Value.int IntKind.i64 p7_t))]
def k29_1 (R : Ending → World → Prop) : Cont := blockK 0 [3] (seqK (fun E w => cutB (findL M29.cuts (headReg c29_0)) Tryd.prog M29 c29_0 E w (retK Tryd.prog Tryd.f29.results.toList R) fun E => den Tryd.prog M29 c29_0 E w (retK Tryd.prog Tryd.f29.results.toList R)) (retK Tryd.prog Tryd.f29.results.toList R))
theorem b29 : Tryd.f29.body = some c29 := by kernel_rfl
theorem n29 : Tryd.f29.ntmps = M29.N := by kernel_rfl
theorem u29 {p0_t : Option Addr} {w : World} {R : Ending → World → Prop} (h : den Tryd.prog M29 c29 (argE 0 [(Value.pointer p0_t)]) w (retK Tryd.prog Tryd.f29.results.toList R)) : Calls Tryd.prog 29 #[(Value.pointer p0_t)] w R := calls_den okProg Tryd.func29 b29 n29 (Nat.le_of_ble_eq_true rfl) h
theorem t29 (p0_t : Option Addr) (w : World) (R : Ending → World → Prop) : den Tryd.prog M29 c29 (argE 0 [(Value.pointer p0_t)]) w (retK Tryd.prog Tryd.f29.results.toList R) =
(Call Tryd.prog 35 [Value.pointer p0_t] w fun e w' =>
  ∃ n,
    e = Ending.returned (Value.int IntKind.i64 n) ∧
      Cut (WP Tryd.prog 21 (Code.loop c29_1) (e29_1 p0_t none 0 0 n (0 : Int)) w' (k29_1 R))) := by kernel_rfl
theorem t29_1 (p0_t : Option Addr) (p3_l_a : Option Addr) (p3_l_n : Nat) (p3_l_c : Nat) (p6_t : Int) (p7_t : Int) (w : World) (B29_1 : Env → World → Prop) (R : Ending → World → Prop) : den Tryd.prog M29 c29_1 (e29_1 p0_t p3_l_a p3_l_n p3_l_c p6_t p7_t) w (loopK B29_1 (k29_1 R)) =
((decide (p7_t < p6_t) = true →
    Call Tryd.prog 36
      [Value.pointer p0_t, Value.int IntKind.i64 (IntKind.wrap IntKind.i64 (p7_t + (1 : Int)))] w fun e w' =>
      ∃ b,
        e = Ending.returned (Value.bool b) ∧
          (b = true →
              New w' [Value.int IntKind.i64 (IntKind.wrap IntKind.i64 (p7_t + (1 : Int)))] 3 fun p w' =>
                ∃ p_1 n c w'_1,
                  Sem.run Tryd.prog
                        (Builtin.append_ #[36, 36] 36
                          #[Value.slice p3_l_a p3_l_n p3_l_c, Value.slice (some p) 1 1])
                        w' =
                      Result.ok (Value.slice p_1 n c) w'_1 ∧
                    B29_1
                      [(0, SV.v (Value.pointer p0_t)), (3, SV.v (Value.slice p_1 n c)),
                        (6, SV.v (Value.int IntKind.i64 p6_t)),
                        (7, SV.v (Value.int IntKind.i64 (IntKind.wrap IntKind.i64 (p7_t + (1 : Int)))))]
                      w'_1) ∧
            (b = false →
              B29_1
                [(0, SV.v (Value.pointer p0_t)), (3, SV.v (Value.slice p3_l_a p3_l_n p3_l_c)),
                  (6, SV.v (Value.int IntKind.i64 p6_t)),
                  (7, SV.v (Value.int IntKind.i64 (IntKind.wrap IntKind.i64 (p7_t + (1 : Int)))))]
                w')) ∧
  (decide (p7_t < p6_t) = false → R (Ending.returned (Value.slice p3_l_a p3_l_n p3_l_c)) w)) := by kernel_rfl
/-! (*davit/thread.Table).find -/
def M30 : Mt := { N := 22, keep := [(0, [0, 1]), (1, [0, 1, 9]), (2, [4, 5]), (3, [6, 7]), (4, [6, 20]), (5, [4, 5]), (6, [4, 5])], ords := [], bk := [], cuts := [], lk := [] }
noncomputable def c30 : Code := bodyOf Tryd.f30
theorem b30 : Tryd.f30.body = some c30 := by kernel_rfl
theorem n30 : Tryd.f30.ntmps = M30.N := by kernel_rfl
theorem u30 {p0_t : Option Addr} {p1_id : Int} {w : World} {R : Ending → World → Prop} (h : den Tryd.prog M30 c30 (argE 0 [(Value.pointer p0_t), (Value.int IntKind.i64 p1_id)]) w (retK Tryd.prog Tryd.f30.results.toList R)) : Calls Tryd.prog 30 #[(Value.pointer p0_t), (Value.int IntKind.i64 p1_id)] w R := calls_den okProg Tryd.func30 b30 n30 (Nat.le_of_ble_eq_true rfl) h
theorem t30 (p0_t : Option Addr) (p1_id : Int) (w : World) (R : Ending → World → Prop) : den Tryd.prog M30 c30 (argE 0 [(Value.pointer p0_t), (Value.int IntKind.i64 p1_id)]) w (retK Tryd.prog Tryd.f30.results.toList R) =
((Option.isNone p0_t = true →
    R (Ending.returned (Value.tuple #[Value.pointer none, Value.int IntKind.i64 1])) w) ∧
  (Option.isNone p0_t = false →
    ∃ a,
      p0_t = some a ∧
        ∃ r,
          World.cell? w (Addr.add a 2) = some (Value.map r) ∧
            ∃ p b,
              Sem.run Tryd.prog (Instr.lookup 66 (Value.map r) (Value.int IntKind.i64 p1_id) true) w =
                  Result.ok (Value.tuple #[Value.pointer p, Value.bool b]) w ∧
                ((!b) = true →
                    R (Ending.returned (Value.tuple #[Value.pointer none, Value.int IntKind.i64 4])) w) ∧
                  ((!b) = false →
                    R (Ending.returned (Value.tuple #[Value.pointer p, Value.int IntKind.i64 0])) w))) := by kernel_rfl
/-! (*davit/thread.Table).right -/
def M31 : Mt := { N := 16, keep := [(0, [0, 1]), (1, [4])], ords := [], bk := [], cuts := [], lk := [] }
noncomputable def c31 : Code := bodyOf Tryd.f31
theorem b31 : Tryd.f31.body = some c31 := by kernel_rfl
theorem n31 : Tryd.f31.ntmps = M31.N := by kernel_rfl
theorem u31 {p0_t : Option Addr} {p1_m : Int} {w : World} {R : Ending → World → Prop} (h : den Tryd.prog M31 c31 (argE 0 [(Value.pointer p0_t), (Value.int IntKind.u64 p1_m)]) w (retK Tryd.prog Tryd.f31.results.toList R)) : Calls Tryd.prog 31 #[(Value.pointer p0_t), (Value.int IntKind.u64 p1_m)] w R := calls_den okProg Tryd.func31 b31 n31 (Nat.le_of_ble_eq_true rfl) h
theorem t31 (p0_t : Option Addr) (p1_m : Int) (w : World) (R : Ending → World → Prop) : den Tryd.prog M31 c31 (argE 0 [(Value.pointer p0_t), (Value.int IntKind.u64 p1_m)]) w (retK Tryd.prog Tryd.f31.results.toList R) =
(((p1_m != (0 : Int)) = true →
    ∃ a,
      p0_t = some a ∧
        ∃ n,
          World.cell? w (Addr.add a 1) = some (Value.int IntKind.i64 n) ∧
            Call Tryd.prog 38 [Value.int IntKind.i64 n] w fun e w' =>
              ∃ n,
                e = Ending.returned (Value.int IntKind.u64 n) ∧
                  Call Tryd.prog 37 [Value.int IntKind.u64 p1_m, Value.int IntKind.u64 n] w' fun e w' =>
                    ∃ b, e = Ending.returned (Value.bool b) ∧ R (Ending.returned (Value.bool b)) w') ∧
  ((p1_m != (0 : Int)) = false → R (Ending.returned (Value.bool false)) w)) := by kernel_rfl
/-! (*davit/slot.Table).Take -/
def M32 : Mt := { N := 59, keep := [(0, [0]), (1, [0, 7]), (2, [2, 3]), (3, [0, 10]), (4, [2, 3]), (5, [0, 23, 24, 25]), (6, [0, 23, 24, 25, 26]), (7, [0, 4, 5, 23, 24, 25]), (8, [0, 4, 6, 23, 24, 25]), (9, [0, 4, 6, 23, 24, 25, 34]), (10, [0, 4, 6]), (11, [4, 6]), (12, [2, 3]), (13, [0, 23, 24, 25]), (14, [2, 3])], ords := [(3, [0, 1, 2, 3, 4, 5, 6, 7, 8, 9]), (10, [0, 1, 2, 3, 4, 5, 6, 7, 8, 9, 10, 11])], bk := [(0, [0]), (1, []), (2, [0, 23, 24, 25])], cuts := [], lk := [(6, [0, 23, 24, 25])] }
noncomputable def c32 : Code := bodyOf Tryd.f32
noncomputable def c32_0 : Code := c32.sr.sr.sr
noncomputable def c32_1 : Code := c32.sr.sr.sl.sr.sl.sl
def e32_1 (p0_t : Option Addr) (p23_t_a : Option Addr) (p23_t_n : Nat) (p23_t_c : Nat) (p24_t : Int) (p25_t : Int) : Env := [(0, SV.v (Value.pointer p0_t)), (23, SV.v (Value.slice p23_t_a p23_t_n p23_t_c)), (24, SV.v (Value.int IntKind.i64 p24_t)), (25, SV.v (Value.int IntKind.i64 p25_t))]
def k32_1 (R : Ending → World → Prop) : Cont := blockK 1 [] (seqK (fun E w => cutB (findL M32.cuts (headReg c32_0)) Tryd.prog M32 c32_0 E w (retK Tryd.prog Tryd.f32.results.toList R) fun E => den Tryd.prog M32 c32_0 E w (retK Tryd.prog Tryd.f32.results.toList R)) (retK Tryd.prog Tryd.f32.results.toList R))
theorem b32 : Tryd.f32.body = some c32 := by kernel_rfl
theorem n32 : Tryd.f32.ntmps = M32.N := by kernel_rfl
theorem u32 {p0_t : Option Addr} {w : World} {R : Ending → World → Prop} (h : den Tryd.prog M32 c32 (argE 0 [(Value.pointer p0_t)]) w (retK Tryd.prog Tryd.f32.results.toList R)) : Calls Tryd.prog 32 #[(Value.pointer p0_t)] w R := calls_den okProg Tryd.func32 b32 n32 (Nat.le_of_ble_eq_true rfl) h
theorem t32 (p0_t : Option Addr) (w : World) (R : Ending → World → Prop) : den Tryd.prog M32 c32 (argE 0 [(Value.pointer p0_t)]) w (retK Tryd.prog Tryd.f32.results.toList R) =
((Option.isNone p0_t = true →
    R (Ending.returned (Value.tuple #[Value.int IntKind.i64 0, Value.int IntKind.i64 1])) w) ∧
  (Option.isNone p0_t = false →
    ∀ (w' : World),
      World.heap w' = World.heap w →
        World.os w' = World.os w →
          World.tape w' = World.tape w →
            World.output w' = World.output w →
              ∃ a,
                p0_t = some a ∧
                  ∃ n,
                    World.cell? w' (Addr.add a 2) = some (Value.int IntKind.i64 n) ∧
                      ∃ a,
                        p0_t = some a ∧
                          ∃ n_1,
                            World.cell? w' (Addr.add a 1) = some (Value.int IntKind.i64 n_1) ∧
                              ((n == n_1) = true →
                                  R
                                    (Ending.returned
                                      (Value.tuple #[Value.int IntKind.i64 0, Value.int IntKind.i64 5]))
                                    w') ∧
                                ((n == n_1) = false →
                                  ∃ a,
                                    p0_t = some a ∧
                                      ∃ p n c,
                                        World.cell? w' (Addr.add a 0) = some (Value.slice p n c) ∧
                                          Cut
                                            (WP Tryd.prog 59 (Code.loop c32_1)
                                              (e32_1 p0_t p n c (↑n : Int) (0 : Int)) w' (k32_1 R))))) := by kernel_rfl
theorem t32_1 (p0_t : Option Addr) (p23_t_a : Option Addr) (p23_t_n : Nat) (p23_t_c : Nat) (p24_t : Int) (p25_t : Int) (w : World) (B32_1 : Env → World → Prop) (R : Ending → World → Prop) : den Tryd.prog M32 c32_1 (e32_1 p0_t p23_t_a p23_t_n p23_t_c p24_t p25_t) w (loopK B32_1 (k32_1 R)) =
((decide (p25_t < p24_t) = true →
    ((0 : Int) ≤ p25_t ∧ p25_t < (↑p23_t_n : Int)) ∧
      ∃ a,
        p23_t_a = some a ∧
          ∃ n,
            World.cell? w (Addr.add a (Int.toNat p25_t * 1)) = some (Value.int IntKind.u64 n) ∧
              Call Tryd.prog 39
                [Value.int IntKind.u64
                    (bitsOp BinOp.xor IntKind.u64
                      (match false with
                      | true => (-1 : Int)
                      | false => IntKind.max IntKind.u64)
                      n)]
                w fun e w' =>
                ∃ n,
                  e = Ending.returned (Value.int IntKind.i64 n) ∧
                    (decide (n < (64 : Int)) = true →
                        ∀ (w'_1 : World),
                          World.heap w'_1 = World.heap w' →
                            World.os w'_1 = World.os w' →
                              World.tape w'_1 = World.tape w' →
                                World.output w'_1 = World.output w' →
                                  ∃ a,
                                    p0_t = some a ∧
                                      ∃ p n_1 c,
                                        World.cell? w'_1 (Addr.add a 0) = some (Value.slice p n_1 c) ∧
                                          ((0 : Int) ≤ p25_t ∧ p25_t < (↑n_1 : Int)) ∧
                                            ∃ a,
                                              p = some a ∧
                                                ∃ n_2,
                                                  World.cell? w'_1 (Addr.add a (Int.toNat p25_t * 1)) =
                                                      some (Value.int IntKind.u64 n_2) ∧
                                                    (0 : Int) ≤ n ∧
                                                      ((0 : Int) ≤ p25_t ∧ p25_t < (↑n_1 : Int)) ∧
                                                        ∃ a,
                                                          p = some a ∧
                                                            Wr w'_1 (Addr.add a (Int.toNat p25_t * 1))
                                                              [Value.int IntKind.u64
                                                                  (bitsOp BinOp.or IntKind.u64 n_2
                                                                    (shlOp IntKind.u64 (1 : Int) n))]
                                                              fun w' =>
                                                              ∃ a,
                                                                p0_t = some a ∧
                                                                  ∃ n_3,
                                                                    World.cell? w' (Addr.add a 2) =
                                                                        some (Value.int IntKind.i64 n_3) ∧
                                                                      ∃ a,
                                                                        p0_t = some a ∧
                                                                          Wr w' (Addr.add a 2)
                                                                            [Value.int IntKind.i64
                                                                                (IntKind.wrap IntKind.i64
                                                                                  (n_3 + (1 : Int)))]
                                                                            fun w' =>
                                                                            R
                                                                              (Ending.returned
                                                                                (Value.tuple
                                                                                  #[Value.int IntKind.i64
                                                                                      (IntKind.wrap IntKind.i64
                                                                                        (IntKind.wrap IntKind.i64
                                                                                            (IntKind.wrap IntKind.i64
                                                                                                (p25_t * (64 : Int)) +
                                                                                              n) +
                                                                                          (1 : Int))),
                                                                                    Value.int IntKind.i64 0]))
                                                                              w') ∧
                      (decide (n < (64 : Int)) = false →
                        B32_1
                          [(0, SV.v (Value.pointer p0_t)),
                            (23, SV.v (Value.slice p23_t_a p23_t_n p23_t_c)),
                            (24, SV.v (Value.int IntKind.i64 p24_t)),
                            (25, SV.v (Value.int IntKind.i64 (IntKind.wrap IntKind.i64 (p25_t + (1 : Int)))))]
                          w')) ∧
  (decide (p25_t < p24_t) = false →
    R (Ending.returned (Value.tuple #[Value.int IntKind.i64 0, Value.int IntKind.i64 5])) w)) := by kernel_rfl
/-! (*davit/slot.Table).Give -/
def M33 : Mt := { N := 40, keep := [(0, [0, 1]), (1, [0, 5, 6]), (2, [0, 5, 6, 13]), (3, [4]), (4, [0, 5, 6, 16]), (5, [4]), (6, [0]), (7, []), (8, [4])], ords := [], bk := [(0, [0, 5, 6])], cuts := [], lk := [] }
noncomputable def c33 : Code := bodyOf Tryd.f33
theorem b33 : Tryd.f33.body = some c33 := by kernel_rfl
theorem n33 : Tryd.f33.ntmps = M33.N := by kernel_rfl
theorem u33 {p0_t : Option Addr} {p1_n : Int} {w : World} {R : Ending → World → Prop} (h : den Tryd.prog M33 c33 (argE 0 [(Value.pointer p0_t), (Value.int IntKind.i64 p1_n)]) w (retK Tryd.prog Tryd.f33.results.toList R)) : Calls Tryd.prog 33 #[(Value.pointer p0_t), (Value.int IntKind.i64 p1_n)] w R := calls_den okProg Tryd.func33 b33 n33 (Nat.le_of_ble_eq_true rfl) h
theorem t33 (p0_t : Option Addr) (p1_n : Int) (w : World) (R : Ending → World → Prop) : den Tryd.prog M33 c33 (argE 0 [(Value.pointer p0_t), (Value.int IntKind.i64 p1_n)]) w (retK Tryd.prog Tryd.f33.results.toList R) =
(Call Tryd.prog 40 [Value.pointer p0_t, Value.int IntKind.i64 p1_n] w fun e w' =>
  ∃ p n,
    e = Ending.returned (Value.tuple #[Value.pointer p, Value.int IntKind.u64 n]) ∧
      (Option.isNone p0_t = true → R (Ending.returned (Value.int IntKind.i64 1)) w') ∧
        (Option.isNone p0_t = false →
          (Option.isNone p = false →
              ∃ a,
                p = some a ∧
                  ∃ n_1,
                    World.cell? w' a = some (Value.int IntKind.u64 n_1) ∧
                      ((bitsOp BinOp.and IntKind.u64 n_1 n == (0 : Int)) = true →
                          R (Ending.returned (Value.int IntKind.i64 4)) w') ∧
                        ((bitsOp BinOp.and IntKind.u64 n_1 n == (0 : Int)) = false →
                          ∃ a,
                            p = some a ∧
                              ∃ n_2,
                                World.cell? w' a = some (Value.int IntKind.u64 n_2) ∧
                                  ∃ a,
                                    p = some a ∧
                                      Wr w' a [Value.int IntKind.u64 (bitsOp BinOp.andNot IntKind.u64 n_2 n)] fun w' =>
                                        ∃ a,
                                          p0_t = some a ∧
                                            ∃ n,
                                              World.cell? w' (Addr.add a 2) = some (Value.int IntKind.i64 n) ∧
                                                ∃ a,
                                                  p0_t = some a ∧
                                                    Wr w' (Addr.add a 2)
                                                      [Value.int IntKind.i64 (IntKind.wrap IntKind.i64 (n - (1 : Int)))]
                                                      fun w' =>
                                                      R (Ending.returned (Value.int IntKind.i64 0)) w')) ∧
            (Option.isNone p = true → R (Ending.returned (Value.int IntKind.i64 4)) w'))) := by kernel_rfl
/-! davit/davitref11.Right -/
def M34 : Mt := { N := 14, keep := [(0, [0, 1]), (1, [4])], ords := [], bk := [], cuts := [], lk := [] }
noncomputable def c34 : Code := bodyOf Tryd.f34
theorem b34 : Tryd.f34.body = some c34 := by kernel_rfl
theorem n34 : Tryd.f34.ntmps = M34.N := by kernel_rfl
theorem u34 {p0_cpus : Int} {p1_m : Int} {w : World} {R : Ending → World → Prop} (h : den Tryd.prog M34 c34 (argE 0 [(Value.int IntKind.i64 p0_cpus), (Value.int IntKind.u64 p1_m)]) w (retK Tryd.prog Tryd.f34.results.toList R)) : Calls Tryd.prog 34 #[(Value.int IntKind.i64 p0_cpus), (Value.int IntKind.u64 p1_m)] w R := calls_den okProg Tryd.func34 b34 n34 (Nat.le_of_ble_eq_true rfl) h
theorem t34 (p0_cpus : Int) (p1_m : Int) (w : World) (R : Ending → World → Prop) : den Tryd.prog M34 c34 (argE 0 [(Value.int IntKind.i64 p0_cpus), (Value.int IntKind.u64 p1_m)]) w (retK Tryd.prog Tryd.f34.results.toList R) =
(((p1_m != (0 : Int)) = true →
    Call Tryd.prog 42 [Value.int IntKind.i64 p0_cpus] w fun e w' =>
      ∃ n,
        e = Ending.returned (Value.int IntKind.u64 n) ∧
          Call Tryd.prog 41 [Value.int IntKind.u64 p1_m, Value.int IntKind.u64 n] w' fun e w' =>
            ∃ n,
              e = Ending.returned (Value.int IntKind.u64 n) ∧ R (Ending.returned (Value.bool (n == (0 : Int)))) w') ∧
  ((p1_m != (0 : Int)) = false → R (Ending.returned (Value.bool false)) w)) := by kernel_rfl
/-! (*davit/slot.Table).Cap -/
def M35 : Mt := { N := 9, keep := [(0, [0]), (1, [0, 4]), (2, [2]), (3, [2])], ords := [], bk := [], cuts := [], lk := [] }
noncomputable def c35 : Code := bodyOf Tryd.f35
theorem b35 : Tryd.f35.body = some c35 := by kernel_rfl
theorem n35 : Tryd.f35.ntmps = M35.N := by kernel_rfl
theorem u35 {p0_t : Option Addr} {w : World} {R : Ending → World → Prop} (h : den Tryd.prog M35 c35 (argE 0 [(Value.pointer p0_t)]) w (retK Tryd.prog Tryd.f35.results.toList R)) : Calls Tryd.prog 35 #[(Value.pointer p0_t)] w R := calls_den okProg Tryd.func35 b35 n35 (Nat.le_of_ble_eq_true rfl) h
theorem t35 (p0_t : Option Addr) (w : World) (R : Ending → World → Prop) : den Tryd.prog M35 c35 (argE 0 [(Value.pointer p0_t)]) w (retK Tryd.prog Tryd.f35.results.toList R) =
((Option.isNone p0_t = true → R (Ending.returned (Value.int IntKind.i64 0)) w) ∧
  (Option.isNone p0_t = false →
    ∃ a,
      p0_t = some a ∧
        ∃ n,
          World.cell? w (Addr.add a 1) = some (Value.int IntKind.i64 n) ∧
            R (Ending.returned (Value.int IntKind.i64 n)) w)) := by kernel_rfl
/-! (*davit/slot.Table).Has -/
def M36 : Mt := { N := 23, keep := [(0, [0, 1]), (1, [5, 6]), (2, [4])], ords := [], bk := [], cuts := [], lk := [] }
noncomputable def c36 : Code := bodyOf Tryd.f36
theorem b36 : Tryd.f36.body = some c36 := by kernel_rfl
theorem n36 : Tryd.f36.ntmps = M36.N := by kernel_rfl
theorem u36 {p0_t : Option Addr} {p1_n : Int} {w : World} {R : Ending → World → Prop} (h : den Tryd.prog M36 c36 (argE 0 [(Value.pointer p0_t), (Value.int IntKind.i64 p1_n)]) w (retK Tryd.prog Tryd.f36.results.toList R)) : Calls Tryd.prog 36 #[(Value.pointer p0_t), (Value.int IntKind.i64 p1_n)] w R := calls_den okProg Tryd.func36 b36 n36 (Nat.le_of_ble_eq_true rfl) h
theorem t36 (p0_t : Option Addr) (p1_n : Int) (w : World) (R : Ending → World → Prop) : den Tryd.prog M36 c36 (argE 0 [(Value.pointer p0_t), (Value.int IntKind.i64 p1_n)]) w (retK Tryd.prog Tryd.f36.results.toList R) =
(Call Tryd.prog 40 [Value.pointer p0_t, Value.int IntKind.i64 p1_n] w fun e w' =>
  ∃ p n,
    e = Ending.returned (Value.tuple #[Value.pointer p, Value.int IntKind.u64 n]) ∧
      ((!Option.isNone p) = true →
          ∃ a,
            p = some a ∧
              ∃ n_1,
                World.cell? w' a = some (Value.int IntKind.u64 n_1) ∧
                  R (Ending.returned (Value.bool (bitsOp BinOp.and IntKind.u64 n_1 n != (0 : Int)))) w') ∧
        ((!Option.isNone p) = false → R (Ending.returned (Value.bool false)) w')) := by kernel_rfl
/-! (davit/mask.Mask).Within -/
def M37 : Mt := { N := 9, keep := [(0, [0, 1]), (1, [4])], ords := [], bk := [], cuts := [], lk := [] }
noncomputable def c37 : Code := bodyOf Tryd.f37
theorem b37 : Tryd.f37.body = some c37 := by kernel_rfl
theorem n37 : Tryd.f37.ntmps = M37.N := by kernel_rfl
theorem u37 {p0_m : Int} {p1_o : Int} {w : World} {R : Ending → World → Prop} (h : den Tryd.prog M37 c37 (argE 0 [(Value.int IntKind.u64 p0_m), (Value.int IntKind.u64 p1_o)]) w (retK Tryd.prog Tryd.f37.results.toList R)) : Calls Tryd.prog 37 #[(Value.int IntKind.u64 p0_m), (Value.int IntKind.u64 p1_o)] w R := calls_den okProg Tryd.func37 b37 n37 (Nat.le_of_ble_eq_true rfl) h
theorem t37 (p0_m : Int) (p1_o : Int) (w : World) (R : Ending → World → Prop) : den Tryd.prog M37 c37 (argE 0 [(Value.int IntKind.u64 p0_m), (Value.int IntKind.u64 p1_o)]) w (retK Tryd.prog Tryd.f37.results.toList R) =
(R (Ending.returned (Value.bool (bitsOp BinOp.andNot IntKind.u64 p0_m p1_o == (0 : Int)))) w) := by kernel_rfl
/-! davit/mask.Upto -/
def M38 : Mt := { N := 12, keep := [(0, [0]), (1, [0, 3]), (2, [2]), (3, [0, 6]), (4, [2]), (5, [2])], ords := [], bk := [(0, [0])], cuts := [], lk := [] }
noncomputable def c38 : Code := bodyOf Tryd.f38
theorem b38 : Tryd.f38.body = some c38 := by kernel_rfl
theorem n38 : Tryd.f38.ntmps = M38.N := by kernel_rfl
theorem u38 {p0_n : Int} {w : World} {R : Ending → World → Prop} (h : den Tryd.prog M38 c38 (argE 0 [(Value.int IntKind.i64 p0_n)]) w (retK Tryd.prog Tryd.f38.results.toList R)) : Calls Tryd.prog 38 #[(Value.int IntKind.i64 p0_n)] w R := calls_den okProg Tryd.func38 b38 n38 (Nat.le_of_ble_eq_true rfl) h
theorem t38 (p0_n : Int) (w : World) (R : Ending → World → Prop) : den Tryd.prog M38 c38 (argE 0 [(Value.int IntKind.i64 p0_n)]) w (retK Tryd.prog Tryd.f38.results.toList R) =
((decide (p0_n ≤ (0 : Int)) = true → R (Ending.returned (Value.int IntKind.u64 0)) w) ∧
  (decide (p0_n ≤ (0 : Int)) = false →
    (decide (p0_n ≥ (64 : Int)) = true →
        R (Ending.returned (Value.int IntKind.u64 18446744073709551615)) w) ∧
      (decide (p0_n ≥ (64 : Int)) = false →
        Call Tryd.prog 43 [Value.int IntKind.i64 p0_n] w fun e w' =>
          ∃ n,
            e = Ending.returned (Value.int IntKind.u64 n) ∧
              R (Ending.returned (Value.int IntKind.u64 (IntKind.wrap IntKind.u64 (n - (1 : Int))))) w'))) := by kernel_rfl
/-! math/bits.TrailingZeros64 -/
def M39 : Mt := { N := 14, keep := [(0, [0]), (1, [0, 4]), (2, [2]), (3, [2])], ords := [], bk := [], cuts := [], lk := [] }
noncomputable def c39 : Code := bodyOf Tryd.f39
theorem b39 : Tryd.f39.body = some c39 := by kernel_rfl
theorem n39 : Tryd.f39.ntmps = M39.N := by kernel_rfl
theorem u39 {p0_x : Int} {w : World} {R : Ending → World → Prop} (h : den Tryd.prog M39 c39 (argE 0 [(Value.int IntKind.u64 p0_x)]) w (retK Tryd.prog Tryd.f39.results.toList R)) : Calls Tryd.prog 39 #[(Value.int IntKind.u64 p0_x)] w R := calls_den okProg Tryd.func39 b39 n39 (Nat.le_of_ble_eq_true rfl) h
set_option maxRecDepth 100000 in
theorem t39 (p0_x : Int) (w : World) (R : Ending → World → Prop) : den Tryd.prog M39 c39 (argE 0 [(Value.int IntKind.u64 p0_x)]) w (retK Tryd.prog Tryd.f39.results.toList R) =
(((p0_x == (0 : Int)) = true → R (Ending.returned (Value.int IntKind.i64 64)) w) ∧
  ((p0_x == (0 : Int)) = false → (0 : Int) ≤ (58 : Int) ∧ ((0 : Int) ≤ shrOp IntKind.u64 (IntKind.wrap IntKind.u64 (bitsOp BinOp.and IntKind.u64 p0_x (IntKind.wrap IntKind.u64 (0 - p0_x)) * 285870213051353865)) 58 ∧ shrOp IntKind.u64 (IntKind.wrap IntKind.u64 (bitsOp BinOp.and IntKind.u64 p0_x (IntKind.wrap IntKind.u64 (0 - p0_x)) * 285870213051353865)) 58 < ((64 : Nat) : Int)) ∧
    ∃ n, World.cell? w (Addr.add ⟨0, 0, none⟩ (Int.toNat (shrOp IntKind.u64 (IntKind.wrap IntKind.u64 (bitsOp BinOp.and IntKind.u64 p0_x (IntKind.wrap IntKind.u64 (0 - p0_x)) * 285870213051353865)) 58) * 1)) = some (Value.int IntKind.u8 n) ∧ R (Ending.returned (Value.int IntKind.i64 (IntKind.wrap IntKind.i64 n))) w)) := by kernel_rfl
/-! (*davit/slot.Table).bit -/
def M40 : Mt := { N := 32, keep := [(0, [0, 1]), (1, [0, 1, 19]), (2, [4, 5]), (3, [4, 5])], ords := [(3, [0, 1, 2, 3, 4, 5, 6, 7, 8, 9, 10, 11, 12, 13])], bk := [], cuts := [], lk := [] }
noncomputable def c40 : Code := bodyOf Tryd.f40
theorem b40 : Tryd.f40.body = some c40 := by kernel_rfl
theorem n40 : Tryd.f40.ntmps = M40.N := by kernel_rfl
theorem u40 {p0_t : Option Addr} {p1_n : Int} {w : World} {R : Ending → World → Prop} (h : den Tryd.prog M40 c40 (argE 0 [(Value.pointer p0_t), (Value.int IntKind.i64 p1_n)]) w (retK Tryd.prog Tryd.f40.results.toList R)) : Calls Tryd.prog 40 #[(Value.pointer p0_t), (Value.int IntKind.i64 p1_n)] w R := calls_den okProg Tryd.func40 b40 n40 (Nat.le_of_ble_eq_true rfl) h
theorem t40 (p0_t : Option Addr) (p1_n : Int) (w : World) (R : Ending → World → Prop) : den Tryd.prog M40 c40 (argE 0 [(Value.pointer p0_t), (Value.int IntKind.i64 p1_n)]) w (retK Tryd.prog Tryd.f40.results.toList R) =
((Option.isNone p0_t = false →
    (decide (p1_n < (1 : Int)) = false →
        ∃ a,
          p0_t = some a ∧
            ∃ n,
              World.cell? w (Addr.add a 1) = some (Value.int IntKind.i64 n) ∧
                (decide (p1_n > n) = true →
                    R (Ending.returned (Value.tuple #[Value.pointer none, Value.int IntKind.u64 0])) w) ∧
                  (decide (p1_n > n) = false →
                    ∀ (w' : World),
                      World.heap w' = World.heap w →
                        World.os w' = World.os w →
                          World.tape w' = World.tape w →
                            World.output w' = World.output w →
                              ∃ a,
                                p0_t = some a ∧
                                  ∃ p n c,
                                    World.cell? w' (Addr.add a 0) = some (Value.slice p n c) ∧
                                      (64 : Int) ≠ (0 : Int) ∧
                                        ((0 : Int) ≤
                                              IntKind.wrap IntKind.i64
                                                (Int.tdiv (IntKind.wrap IntKind.i64 (p1_n - (1 : Int))) (64 : Int)) ∧
                                            IntKind.wrap IntKind.i64
                                                (Int.tdiv (IntKind.wrap IntKind.i64 (p1_n - (1 : Int))) (64 : Int)) <
                                              (↑n : Int)) ∧
                                          ∃ a,
                                            p = some a ∧
                                              (64 : Int) ≠ (0 : Int) ∧
                                                (0 : Int) ≤
                                                    Int.tmod (IntKind.wrap IntKind.i64 (p1_n - (1 : Int))) (64 : Int) ∧
                                                  R
                                                    (Ending.returned
                                                      (Value.tuple
                                                        #[Value.pointer
                                                            (some
                                                              (Addr.add a
                                                                (Int.toNat
                                                                    (IntKind.wrap IntKind.i64
                                                                      (Int.tdiv
                                                                        (IntKind.wrap IntKind.i64 (p1_n - (1 : Int)))
                                                                        (64 : Int))) *
                                                                  1))),
                                                          Value.int IntKind.u64
                                                            (shlOp IntKind.u64 (1 : Int)
                                                              (Int.tmod (IntKind.wrap IntKind.i64 (p1_n - (1 : Int)))
                                                                (64 : Int)))]))
                                                    w')) ∧
      (decide (p1_n < (1 : Int)) = true →
        R (Ending.returned (Value.tuple #[Value.pointer none, Value.int IntKind.u64 0])) w)) ∧
  (Option.isNone p0_t = true →
    R (Ending.returned (Value.tuple #[Value.pointer none, Value.int IntKind.u64 0])) w)) := by kernel_rfl
/-! davit/davitref01.Not -/
def M41 : Mt := { N := 26, keep := [(0, [0, 1]), (1, [0, 1, 5]), (2, [0, 1, 5, 6]), (3, [0, 1, 5, 6, 8]), (4, [0, 1, 5, 6]), (5, [0, 1, 5, 6, 19]), (6, [0, 1, 5, 6]), (7, [4])], ords := [], bk := [(0, [5]), (1, [0, 1, 5, 6])], cuts := [(7, [5])], lk := [(3, [0, 1, 5, 6])] }
noncomputable def c41 : Code := bodyOf Tryd.f41
noncomputable def c41_0 : Code := c41.sr.sr.sr
noncomputable def c41_1 : Code := c41.sr.sr.sl.sr.sl.sl
def e41_0 (p5_l_a : Option Addr) (p5_l_n : Nat) (p5_l_c : Nat) : Env := [(5, SV.v (Value.slice p5_l_a p5_l_n p5_l_c))]
def e41_1 (p0_m : Int) (p1_o : Int) (p5_l_a : Option Addr) (p5_l_n : Nat) (p5_l_c : Nat) (p6_i : Int) : Env := [(0, SV.v (Value.int IntKind.u64 p0_m)), (1, SV.v (Value.int IntKind.u64 p1_o)), (5, SV.v (Value.slice p5_l_a p5_l_n p5_l_c)), (6, SV.v (Value.int IntKind.i64 p6_i))]
def k41_0 (R : Ending → World → Prop) : Cont := retK Tryd.prog Tryd.f41.results.toList R
def k41_1 (R : Ending → World → Prop) : Cont := blockK 0 [5] (seqK (fun E w => cutB (findL M41.cuts (headReg c41_0)) Tryd.prog M41 c41_0 E w (retK Tryd.prog Tryd.f41.results.toList R) fun E => den Tryd.prog M41 c41_0 E w (retK Tryd.prog Tryd.f41.results.toList R)) (retK Tryd.prog Tryd.f41.results.toList R))
theorem b41 : Tryd.f41.body = some c41 := by kernel_rfl
theorem n41 : Tryd.f41.ntmps = M41.N := by kernel_rfl
theorem u41 {p0_m : Int} {p1_o : Int} {w : World} {R : Ending → World → Prop} (h : den Tryd.prog M41 c41 (argE 0 [(Value.int IntKind.u64 p0_m), (Value.int IntKind.u64 p1_o)]) w (retK Tryd.prog Tryd.f41.results.toList R)) : Calls Tryd.prog 41 #[(Value.int IntKind.u64 p0_m), (Value.int IntKind.u64 p1_o)] w R := calls_den okProg Tryd.func41 b41 n41 (Nat.le_of_ble_eq_true rfl) h
theorem t41 (p0_m : Int) (p1_o : Int) (w : World) (R : Ending → World → Prop) : den Tryd.prog M41 c41 (argE 0 [(Value.int IntKind.u64 p0_m), (Value.int IntKind.u64 p1_o)]) w (retK Tryd.prog Tryd.f41.results.toList R) =
(Cut (WP Tryd.prog 26 (Code.loop c41_1) (e41_1 p0_m p1_o none 0 0 (0 : Int)) w (k41_1 R))) := by kernel_rfl
theorem t41_0 (p5_l_a : Option Addr) (p5_l_n : Nat) (p5_l_c : Nat) (w : World) (R : Ending → World → Prop) : den Tryd.prog M41 c41_0 (e41_0 p5_l_a p5_l_n p5_l_c) w (k41_0 R) =
(Call Tryd.prog 45 [Value.slice p5_l_a p5_l_n p5_l_c] w fun e w' =>
  ∃ n, e = Ending.returned (Value.int IntKind.u64 n) ∧ R (Ending.returned (Value.int IntKind.u64 n)) w') := by kernel_rfl
theorem t41_1 (p0_m : Int) (p1_o : Int) (p5_l_a : Option Addr) (p5_l_n : Nat) (p5_l_c : Nat) (p6_i : Int) (w : World) (B41_1 : Env → World → Prop) (R : Ending → World → Prop) : den Tryd.prog M41 c41_1 (e41_1 p0_m p1_o p5_l_a p5_l_n p5_l_c p6_i) w (loopK B41_1 (k41_1 R)) =
((decide (p6_i < (64 : Int)) = true →
    Call Tryd.prog 44 [Value.int IntKind.u64 p0_m, Value.int IntKind.i64 p6_i] w fun e w' =>
      ∃ b,
        e = Ending.returned (Value.bool b) ∧
          (b = true →
              Call Tryd.prog 44 [Value.int IntKind.u64 p1_o, Value.int IntKind.i64 p6_i] w' fun e w' =>
                ∃ b,
                  e = Ending.returned (Value.bool b) ∧
                    ((!b) = true →
                        New w' [Value.int IntKind.i64 p6_i] 3 fun p w' =>
                          ∃ p_1 n c w'_1,
                            Sem.run Tryd.prog
                                  (Builtin.append_ #[36, 36] 36
                                    #[Value.slice p5_l_a p5_l_n p5_l_c, Value.slice (some p) 1 1])
                                  w' =
                                Result.ok (Value.slice p_1 n c) w'_1 ∧
                              B41_1
                                [(0, SV.v (Value.int IntKind.u64 p0_m)),
                                  (1, SV.v (Value.int IntKind.u64 p1_o)),
                                  (5, SV.v (Value.slice p_1 n c)),
                                  (6,
                                    SV.v (Value.int IntKind.i64 (IntKind.wrap IntKind.i64 (p6_i + (1 : Int)))))]
                                w'_1) ∧
                      ((!b) = false →
                        B41_1
                          [(0, SV.v (Value.int IntKind.u64 p0_m)),
                            (1, SV.v (Value.int IntKind.u64 p1_o)),
                            (5, SV.v (Value.slice p5_l_a p5_l_n p5_l_c)),
                            (6, SV.v (Value.int IntKind.i64 (IntKind.wrap IntKind.i64 (p6_i + (1 : Int)))))]
                          w')) ∧
            (b = false →
              B41_1
                [(0, SV.v (Value.int IntKind.u64 p0_m)), (1, SV.v (Value.int IntKind.u64 p1_o)),
                  (5, SV.v (Value.slice p5_l_a p5_l_n p5_l_c)),
                  (6, SV.v (Value.int IntKind.i64 (IntKind.wrap IntKind.i64 (p6_i + (1 : Int)))))]
                w')) ∧
  (decide (p6_i < (64 : Int)) = false → CutD Tryd.prog M41 c41_0 (e41_0 p5_l_a p5_l_n p5_l_c) w (k41_0 R))) := by kernel_rfl
/-! davit/davitref01.Upto -/
def M42 : Mt := { N := 18, keep := [(0, [0]), (1, [0, 3]), (2, [0, 3, 4]), (3, [0, 3, 4, 11]), (4, [0, 3, 4]), (5, [0, 3, 4]), (6, [2])], ords := [], bk := [(0, [3]), (1, [0, 3, 4])], cuts := [], lk := [(3, [0, 3, 4])] }
noncomputable def c42 : Code := bodyOf Tryd.f42
noncomputable def c42_0 : Code := c42.sr.sr.sr
noncomputable def c42_1 : Code := c42.sr.sr.sl.sr.sl.sl
def e42_1 (p0_n : Int) (p3_m : Int) (p4_i : Int) : Env := [(0, SV.v (Value.int IntKind.i64 p0_n)), (3, SV.v (Value.int IntKind.u64 p3_m)), (4, SV.v (Value.int IntKind.i64 p4_i))]
def k42_1 (R : Ending → World → Prop) : Cont := blockK 0 [3] (seqK (fun E w => cutB (findL M42.cuts (headReg c42_0)) Tryd.prog M42 c42_0 E w (retK Tryd.prog Tryd.f42.results.toList R) fun E => den Tryd.prog M42 c42_0 E w (retK Tryd.prog Tryd.f42.results.toList R)) (retK Tryd.prog Tryd.f42.results.toList R))
theorem b42 : Tryd.f42.body = some c42 := by kernel_rfl
theorem n42 : Tryd.f42.ntmps = M42.N := by kernel_rfl
theorem u42 {p0_n : Int} {w : World} {R : Ending → World → Prop} (h : den Tryd.prog M42 c42 (argE 0 [(Value.int IntKind.i64 p0_n)]) w (retK Tryd.prog Tryd.f42.results.toList R)) : Calls Tryd.prog 42 #[(Value.int IntKind.i64 p0_n)] w R := calls_den okProg Tryd.func42 b42 n42 (Nat.le_of_ble_eq_true rfl) h
theorem t42 (p0_n : Int) (w : World) (R : Ending → World → Prop) : den Tryd.prog M42 c42 (argE 0 [(Value.int IntKind.i64 p0_n)]) w (retK Tryd.prog Tryd.f42.results.toList R) =
(Cut (WP Tryd.prog 18 (Code.loop c42_1) (e42_1 p0_n (0 : Int) (0 : Int)) w (k42_1 R))) := by kernel_rfl
theorem t42_1 (p0_n : Int) (p3_m : Int) (p4_i : Int) (w : World) (B42_1 : Env → World → Prop) (R : Ending → World → Prop) : den Tryd.prog M42 c42_1 (e42_1 p0_n p3_m p4_i) w (loopK B42_1 (k42_1 R)) =
((decide (p4_i < p0_n) = true →
    (decide (p4_i < (64 : Int)) = true →
        Call Tryd.prog 46 [Value.int IntKind.u64 p3_m, Value.int IntKind.i64 p4_i] w fun e w' =>
          ∃ n,
            e = Ending.returned (Value.int IntKind.u64 n) ∧
              B42_1
                [(0, SV.v (Value.int IntKind.i64 p0_n)), (3, SV.v (Value.int IntKind.u64 n)),
                  (4, SV.v (Value.int IntKind.i64 (IntKind.wrap IntKind.i64 (p4_i + (1 : Int)))))]
                w') ∧
      (decide (p4_i < (64 : Int)) = false → R (Ending.returned (Value.int IntKind.u64 p3_m)) w)) ∧
  (decide (p4_i < p0_n) = false → R (Ending.returned (Value.int IntKind.u64 p3_m)) w)) := by kernel_rfl
/-! davit/mask.one -/
def M43 : Mt := { N := 11, keep := [(0, [0]), (1, [0, 8]), (2, [2]), (3, [2])], ords := [], bk := [], cuts := [], lk := [] }
noncomputable def c43 : Code := bodyOf Tryd.f43
theorem b43 : Tryd.f43.body = some c43 := by kernel_rfl
theorem n43 : Tryd.f43.ntmps = M43.N := by kernel_rfl
theorem u43 {p0_cpu : Int} {w : World} {R : Ending → World → Prop} (h : den Tryd.prog M43 c43 (argE 0 [(Value.int IntKind.i64 p0_cpu)]) w (retK Tryd.prog Tryd.f43.results.toList R)) : Calls Tryd.prog 43 #[(Value.int IntKind.i64 p0_cpu)] w R := calls_den okProg Tryd.func43 b43 n43 (Nat.le_of_ble_eq_true rfl) h
theorem t43 (p0_cpu : Int) (w : World) (R : Ending → World → Prop) : den Tryd.prog M43 c43 (argE 0 [(Value.int IntKind.i64 p0_cpu)]) w (retK Tryd.prog Tryd.f43.results.toList R) =
((decide (p0_cpu < (0 : Int)) = false →
    (decide (p0_cpu ≥ (64 : Int)) = true → R (Ending.returned (Value.int IntKind.u64 0)) w) ∧
      (decide (p0_cpu ≥ (64 : Int)) = false →
        (0 : Int) ≤ p0_cpu ∧ R (Ending.returned (Value.int IntKind.u64 (shlOp IntKind.u64 (1 : Int) p0_cpu))) w)) ∧
  (decide (p0_cpu < (0 : Int)) = true → R (Ending.returned (Value.int IntKind.u64 0)) w)) := by kernel_rfl
/-! davit/davitref01.Has -/
def M44 : Mt := { N := 17, keep := [(0, [0, 1]), (1, [0, 1, 10]), (2, [4]), (3, [4])], ords := [], bk := [], cuts := [], lk := [] }
noncomputable def c44 : Code := bodyOf Tryd.f44
theorem b44 : Tryd.f44.body = some c44 := by kernel_rfl
theorem n44 : Tryd.f44.ntmps = M44.N := by kernel_rfl
theorem u44 {p0_m : Int} {p1_cpu : Int} {w : World} {R : Ending → World → Prop} (h : den Tryd.prog M44 c44 (argE 0 [(Value.int IntKind.u64 p0_m), (Value.int IntKind.i64 p1_cpu)]) w (retK Tryd.prog Tryd.f44.results.toList R)) : Calls Tryd.prog 44 #[(Value.int IntKind.u64 p0_m), (Value.int IntKind.i64 p1_cpu)] w R := calls_den okProg Tryd.func44 b44 n44 (Nat.le_of_ble_eq_true rfl) h
theorem t44 (p0_m : Int) (p1_cpu : Int) (w : World) (R : Ending → World → Prop) : den Tryd.prog M44 c44 (argE 0 [(Value.int IntKind.u64 p0_m), (Value.int IntKind.i64 p1_cpu)]) w (retK Tryd.prog Tryd.f44.results.toList R) =
((decide (p1_cpu < (0 : Int)) = false →
    (decide (p1_cpu > (63 : Int)) = true → R (Ending.returned (Value.bool false)) w) ∧
      (decide (p1_cpu > (63 : Int)) = false →
        (0 : Int) ≤ IntKind.wrap IntKind.u64 p1_cpu ∧
          (2 : Int) ≠ (0 : Int) ∧
            R
              (Ending.returned
                (Value.bool
                  (Int.tmod (shrOp IntKind.u64 p0_m (IntKind.wrap IntKind.u64 p1_cpu)) (2 : Int) == (1 : Int))))
              w)) ∧
  (decide (p1_cpu < (0 : Int)) = true → R (Ending.returned (Value.bool false)) w)) := by kernel_rfl
/-! davit/davitref01.Of -/
def M45 : Mt := { N := 18, keep := [(0, [0]), (1, [0, 3]), (2, [0, 3, 4]), (3, [0, 3, 4, 8]), (4, [0, 3, 4]), (5, [0, 3, 4]), (6, [2])], ords := [], bk := [(0, [3]), (1, [0, 3, 4])], cuts := [], lk := [(3, [0, 3, 4])] }
noncomputable def c45 : Code := bodyOf Tryd.f45
noncomputable def c45_0 : Code := c45.sr.sr.sr
noncomputable def c45_1 : Code := c45.sr.sr.sl.sr.sl.sl
def e45_1 (p0_l_a : Option Addr) (p0_l_n : Nat) (p0_l_c : Nat) (p3_m : Int) (p4_i : Int) : Env := [(0, SV.v (Value.slice p0_l_a p0_l_n p0_l_c)), (3, SV.v (Value.int IntKind.u64 p3_m)), (4, SV.v (Value.int IntKind.i64 p4_i))]
def k45_1 (R : Ending → World → Prop) : Cont := blockK 0 [3] (seqK (fun E w => cutB (findL M45.cuts (headReg c45_0)) Tryd.prog M45 c45_0 E w (retK Tryd.prog Tryd.f45.results.toList R) fun E => den Tryd.prog M45 c45_0 E w (retK Tryd.prog Tryd.f45.results.toList R)) (retK Tryd.prog Tryd.f45.results.toList R))
theorem b45 : Tryd.f45.body = some c45 := by kernel_rfl
theorem n45 : Tryd.f45.ntmps = M45.N := by kernel_rfl
theorem u45 {p0_l_a : Option Addr} {p0_l_n : Nat} {p0_l_c : Nat} {w : World} {R : Ending → World → Prop} (h : den Tryd.prog M45 c45 (argE 0 [(Value.slice p0_l_a p0_l_n p0_l_c)]) w (retK Tryd.prog Tryd.f45.results.toList R)) : Calls Tryd.prog 45 #[(Value.slice p0_l_a p0_l_n p0_l_c)] w R := calls_den okProg Tryd.func45 b45 n45 (Nat.le_of_ble_eq_true rfl) h
theorem t45 (p0_l_a : Option Addr) (p0_l_n : Nat) (p0_l_c : Nat) (w : World) (R : Ending → World → Prop) : den Tryd.prog M45 c45 (argE 0 [(Value.slice p0_l_a p0_l_n p0_l_c)]) w (retK Tryd.prog Tryd.f45.results.toList R) =
(Cut (WP Tryd.prog 18 (Code.loop c45_1) (e45_1 p0_l_a p0_l_n p0_l_c (0 : Int) (0 : Int)) w (k45_1 R))) := by kernel_rfl
theorem t45_1 (p0_l_a : Option Addr) (p0_l_n : Nat) (p0_l_c : Nat) (p3_m : Int) (p4_i : Int) (w : World) (B45_1 : Env → World → Prop) (R : Ending → World → Prop) : den Tryd.prog M45 c45_1 (e45_1 p0_l_a p0_l_n p0_l_c p3_m p4_i) w (loopK B45_1 (k45_1 R)) =
((decide (p4_i < (↑p0_l_n : Int)) = true →
    ((0 : Int) ≤ p4_i ∧ p4_i < (↑p0_l_n : Int)) ∧
      ∃ a,
        p0_l_a = some a ∧
          ∃ n,
            World.cell? w (Addr.add a (Int.toNat p4_i * 1)) = some (Value.int IntKind.i64 n) ∧
              Call Tryd.prog 46 [Value.int IntKind.u64 p3_m, Value.int IntKind.i64 n] w fun e w' =>
                ∃ n,
                  e = Ending.returned (Value.int IntKind.u64 n) ∧
                    B45_1
                      [(0, SV.v (Value.slice p0_l_a p0_l_n p0_l_c)),
                        (3, SV.v (Value.int IntKind.u64 n)),
                        (4, SV.v (Value.int IntKind.i64 (IntKind.wrap IntKind.i64 (p4_i + (1 : Int)))))]
                      w') ∧
  (decide (p4_i < (↑p0_l_n : Int)) = false → R (Ending.returned (Value.int IntKind.u64 p3_m)) w)) := by kernel_rfl
/-! davit/davitref01.With -/
def M46 : Mt := { N := 22, keep := [(0, [0, 1]), (1, [0, 1, 15]), (2, [4]), (3, [4])], ords := [], bk := [], cuts := [], lk := [] }
noncomputable def c46 : Code := bodyOf Tryd.f46
theorem b46 : Tryd.f46.body = some c46 := by kernel_rfl
theorem n46 : Tryd.f46.ntmps = M46.N := by kernel_rfl
theorem u46 {p0_m : Int} {p1_cpu : Int} {w : World} {R : Ending → World → Prop} (h : den Tryd.prog M46 c46 (argE 0 [(Value.int IntKind.u64 p0_m), (Value.int IntKind.i64 p1_cpu)]) w (retK Tryd.prog Tryd.f46.results.toList R)) : Calls Tryd.prog 46 #[(Value.int IntKind.u64 p0_m), (Value.int IntKind.i64 p1_cpu)] w R := calls_den okProg Tryd.func46 b46 n46 (Nat.le_of_ble_eq_true rfl) h
theorem t46 (p0_m : Int) (p1_cpu : Int) (w : World) (R : Ending → World → Prop) : den Tryd.prog M46 c46 (argE 0 [(Value.int IntKind.u64 p0_m), (Value.int IntKind.i64 p1_cpu)]) w (retK Tryd.prog Tryd.f46.results.toList R) =
((decide (p1_cpu < (0 : Int)) = false →
    (decide (p1_cpu > (63 : Int)) = false →
        Call Tryd.prog 44 [Value.int IntKind.u64 p0_m, Value.int IntKind.i64 p1_cpu] w fun e w' =>
          ∃ b,
            e = Ending.returned (Value.bool b) ∧
              (b = true → R (Ending.returned (Value.int IntKind.u64 p0_m)) w') ∧
                (b = false →
                  (0 : Int) ≤ IntKind.wrap IntKind.u64 p1_cpu ∧
                    R
                      (Ending.returned
                        (Value.int IntKind.u64
                          (IntKind.wrap IntKind.u64
                            (p0_m + shlOp IntKind.u64 (1 : Int) (IntKind.wrap IntKind.u64 p1_cpu)))))
                      w')) ∧
      (decide (p1_cpu > (63 : Int)) = true → R (Ending.returned (Value.int IntKind.u64 p0_m)) w)) ∧
  (decide (p1_cpu < (0 : Int)) = true → R (Ending.returned (Value.int IntKind.u64 p0_m)) w)) := by kernel_rfl
end Go.Dav
