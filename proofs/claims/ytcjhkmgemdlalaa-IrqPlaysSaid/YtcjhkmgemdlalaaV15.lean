/- What functions of the program come to. -/
import Derived.Test.YtcjhkmgemdlalaaPrg15
namespace Go.Dav
open Go.Proofs
/-! davit/davitlaw15.IrqOnce -/
def M3 : Mt := { N := 103, keep := [(0, [0, 1, 2]), (1, [0, 1, 2, 7, 8]), (2, [0, 1, 2, 7, 8, 31]), (3, [6]), (4, [0, 1, 2, 7, 49]), (5, [6]), (6, [0, 1, 2, 7, 9]), (7, [0, 1, 2, 7, 9, 52]), (8, [0, 1, 2, 7, 9]), (9, [0, 1, 2, 7, 9, 65]), (10, [6]), (11, [0, 7, 78]), (12, [6]), (13, [6])], ords := [], bk := [(0, [0, 2, 7]), (1, [0, 1, 2, 7, 9])], cuts := [(6, [0, 1, 2, 7]), (11, [0, 2, 7]), (13, [0, 7])], lk := [(7, [0, 1, 2, 7, 9])] }
noncomputable def c3 : Code := bodyOf Try.f3
noncomputable def c3_0 : Code := c3.sr.sr.sr.sr
noncomputable def c3_1 : Code := c3.sr.sr.sr.sr.sr
noncomputable def c3_2 : Code := c3.sr.sr.sr.sr.sr.sr
noncomputable def c3_3 : Code := c3.sr.sr.sr.sr.sl.sr.sl.sl
def e3_0 (p0_n : Int) (p1_times : Int) (p2_hush : Bool) (p7_t : Option Addr) : Env := [(0, SV.v (Value.int IntKind.i64 p0_n)), (1, SV.v (Value.int IntKind.i64 p1_times)), (2, SV.v (Value.bool p2_hush)), (7, SV.v (Value.pointer p7_t))]
def e3_1 (p0_n : Int) (p2_hush : Bool) (p7_t : Option Addr) : Env := [(0, SV.v (Value.int IntKind.i64 p0_n)), (2, SV.v (Value.bool p2_hush)), (7, SV.v (Value.pointer p7_t))]
def e3_3 (p0_n : Int) (p1_times : Int) (p2_hush : Bool) (p7_t : Option Addr) (p9_i : Int) : Env := [(0, SV.v (Value.int IntKind.i64 p0_n)), (1, SV.v (Value.int IntKind.i64 p1_times)), (2, SV.v (Value.bool p2_hush)), (7, SV.v (Value.pointer p7_t)), (9, SV.v (Value.int IntKind.i64 p9_i))]
def e3_2 (p0_n : Int) (p7_t : Option Addr) : Env := [(0, SV.v (Value.int IntKind.i64 p0_n)), (7, SV.v (Value.pointer p7_t))]
def k3_0 (R : Ending → World → Prop) : Cont := retK Try.prog Try.f3.results.toList R
def k3_1 (R : Ending → World → Prop) : Cont := retK Try.prog Try.f3.results.toList R
def k3_3 (R : Ending → World → Prop) : Cont := blockK 0 [0, 2, 7] (seqK (fun E w => cutB (findL M3.cuts (headReg c3_1)) Try.prog M3 c3_1 E w (retK Try.prog Try.f3.results.toList R) fun E => den Try.prog M3 c3_1 E w (retK Try.prog Try.f3.results.toList R)) (retK Try.prog Try.f3.results.toList R))
def k3_2 (R : Ending → World → Prop) : Cont := retK Try.prog Try.f3.results.toList R
theorem b3 : Try.f3.body = some c3 := by kernel_rfl
theorem n3 : Try.f3.ntmps = M3.N := by kernel_rfl
theorem u3 {p0_n : Int} {p1_times : Int} {p2_hush : Bool} {w : World} {R : Ending → World → Prop} (h : den Try.prog M3 c3 (argE 0 [(Value.int IntKind.i64 p0_n), (Value.int IntKind.i64 p1_times), (Value.bool p2_hush)]) w (retK Try.prog Try.f3.results.toList R)) : Calls Try.prog 3 #[(Value.int IntKind.i64 p0_n), (Value.int IntKind.i64 p1_times), (Value.bool p2_hush)] w R := calls_den okProg Try.func3 b3 n3 (Nat.le_of_ble_eq_true rfl) h
theorem t3 (p0_n : Int) (p1_times : Int) (p2_hush : Bool) (w : World) (R : Ending → World → Prop) : den Try.prog M3 c3 (argE 0 [(Value.int IntKind.i64 p0_n), (Value.int IntKind.i64 p1_times), (Value.bool p2_hush)]) w (retK Try.prog Try.f3.results.toList R) =
(Call Try.prog 6 [Value.int IntKind.i64 4] w fun e w' =>
  ∃ p n,
    e = Ending.returned (Value.tuple #[Value.pointer p, Value.int IntKind.i64 n]) ∧
      ((n != (0 : Int)) = false →
          (decide (p0_n < (0 : Int)) = false →
              (decide (p0_n ≥ (16 : Int)) = false →
                  (decide (p1_times < (1 : Int)) = false →
                      (decide (p1_times > (50 : Int)) = true →
                          ((n == (0 : Int)) = true →
                              Call Try.prog 7 [] w' fun e w' =>
                                ∃ b, e = Ending.returned (Value.bool b) ∧ R (Ending.returned (Value.bool b)) w') ∧
                            ((n == (0 : Int)) = false → R (Ending.returned (Value.bool false)) w')) ∧
                        (decide (p1_times > (50 : Int)) = false →
                          Call Try.prog 8
                            [Value.pointer p, Value.int IntKind.i64 p0_n, Value.int IntKind.u64 3] w'
                            fun e w' =>
                            ∃ n,
                              e = Ending.returned (Value.int IntKind.i64 n) ∧
                                ((n != (0 : Int)) = false →
                                    (p2_hush = true →
                                        Call Try.prog 9 [Value.pointer p, Value.int IntKind.i64 p0_n] w'
                                          fun e w' =>
                                          ∃ n,
                                            e = Ending.returned (Value.int IntKind.i64 n) ∧
                                              ((n != (0 : Int)) = true → R (Ending.returned (Value.bool false)) w') ∧
                                                ((n != (0 : Int)) = false →
                                                  CutD Try.prog M3 c3_0 (e3_0 p0_n p1_times p2_hush p) w'
                                                    (k3_0 R))) ∧
                                      (p2_hush = false →
                                        CutD Try.prog M3 c3_0 (e3_0 p0_n p1_times p2_hush p) w' (k3_0 R))) ∧
                                  ((n != (0 : Int)) = true → R (Ending.returned (Value.bool false)) w'))) ∧
                    (decide (p1_times < (1 : Int)) = true →
                      ((n == (0 : Int)) = true →
                          Call Try.prog 7 [] w' fun e w' =>
                            ∃ b, e = Ending.returned (Value.bool b) ∧ R (Ending.returned (Value.bool b)) w') ∧
                        ((n == (0 : Int)) = false → R (Ending.returned (Value.bool false)) w'))) ∧
                (decide (p0_n ≥ (16 : Int)) = true →
                  ((n == (0 : Int)) = true →
                      Call Try.prog 7 [] w' fun e w' =>
                        ∃ b, e = Ending.returned (Value.bool b) ∧ R (Ending.returned (Value.bool b)) w') ∧
                    ((n == (0 : Int)) = false → R (Ending.returned (Value.bool false)) w'))) ∧
            (decide (p0_n < (0 : Int)) = true →
              ((n == (0 : Int)) = true →
                  Call Try.prog 7 [] w' fun e w' =>
                    ∃ b, e = Ending.returned (Value.bool b) ∧ R (Ending.returned (Value.bool b)) w') ∧
                ((n == (0 : Int)) = false → R (Ending.returned (Value.bool false)) w'))) ∧
        ((n != (0 : Int)) = true →
          ((n == (0 : Int)) = true →
              Call Try.prog 7 [] w' fun e w' =>
                ∃ b, e = Ending.returned (Value.bool b) ∧ R (Ending.returned (Value.bool b)) w') ∧
            ((n == (0 : Int)) = false → R (Ending.returned (Value.bool false)) w'))) := by kernel_rfl
theorem t3_0 (p0_n : Int) (p1_times : Int) (p2_hush : Bool) (p7_t : Option Addr) (w : World) (R : Ending → World → Prop) : den Try.prog M3 c3_0 (e3_0 p0_n p1_times p2_hush p7_t) w (k3_0 R) =
(Cut (WP Try.prog 103 (Code.loop c3_3) (e3_3 p0_n p1_times p2_hush p7_t (0 : Int)) w (k3_3 R))) := by kernel_rfl
theorem t3_1 (p0_n : Int) (p2_hush : Bool) (p7_t : Option Addr) (w : World) (R : Ending → World → Prop) : den Try.prog M3 c3_1 (e3_1 p0_n p2_hush p7_t) w (k3_1 R) =
((p2_hush = true →
    Call Try.prog 12 [Value.pointer p7_t, Value.int IntKind.i64 p0_n] w fun e w' =>
      ∃ n,
        e = Ending.returned (Value.int IntKind.i64 n) ∧
          ((n != (12 : Int)) = false →
              Call Try.prog 13 [Value.pointer p7_t, Value.int IntKind.i64 p0_n] w' fun e w' =>
                ∃ n,
                  e = Ending.returned (Value.int IntKind.i64 n) ∧
                    ((n != (0 : Int)) = true → R (Ending.returned (Value.bool false)) w') ∧
                      ((n != (0 : Int)) = false → CutD Try.prog M3 c3_2 (e3_2 p0_n p7_t) w' (k3_2 R))) ∧
            ((n != (12 : Int)) = true → R (Ending.returned (Value.bool false)) w')) ∧
  (p2_hush = false → CutD Try.prog M3 c3_2 (e3_2 p0_n p7_t) w (k3_2 R))) := by kernel_rfl
theorem t3_3 (p0_n : Int) (p1_times : Int) (p2_hush : Bool) (p7_t : Option Addr) (p9_i : Int) (w : World) (B3_3 : Env → World → Prop) (R : Ending → World → Prop) : den Try.prog M3 c3_3 (e3_3 p0_n p1_times p2_hush p7_t p9_i) w (loopK B3_3 (k3_3 R)) =
((decide (p9_i < p1_times) = true →
    Call Try.prog 10 [Value.pointer p7_t, Value.int IntKind.i64 p0_n] w fun e w' =>
      ∃ n,
        e = Ending.returned (Value.int IntKind.i64 n) ∧
          ((n != (0 : Int)) = false →
              Call Try.prog 11 [Value.pointer p7_t, Value.int IntKind.i64 p0_n] w' fun e w' =>
                ∃ b,
                  e = Ending.returned (Value.bool b) ∧
                    ((b == p2_hush) = true → R (Ending.returned (Value.bool false)) w') ∧
                      ((b == p2_hush) = false →
                        B3_3
                          [(0, SV.v (Value.int IntKind.i64 p0_n)),
                            (1, SV.v (Value.int IntKind.i64 p1_times)),
                            (2, SV.v (Value.bool p2_hush)), (7, SV.v (Value.pointer p7_t)),
                            (9, SV.v (Value.int IntKind.i64 (IntKind.wrap IntKind.i64 (p9_i + (1 : Int)))))]
                          w')) ∧
            ((n != (0 : Int)) = true → R (Ending.returned (Value.bool false)) w')) ∧
  (decide (p9_i < p1_times) = false → CutD Try.prog M3 c3_1 (e3_1 p0_n p2_hush p7_t) w (k3_1 R))) := by kernel_rfl
theorem t3_2 (p0_n : Int) (p7_t : Option Addr) (w : World) (R : Ending → World → Prop) : den Try.prog M3 c3_2 (e3_2 p0_n p7_t) w (k3_2 R) =
(Call Try.prog 11 [Value.pointer p7_t, Value.int IntKind.i64 p0_n] w fun e w' =>
  ∃ b,
    e = Ending.returned (Value.bool b) ∧
      (b = true →
          Call Try.prog 12 [Value.pointer p7_t, Value.int IntKind.i64 p0_n] w' fun e w' =>
            ∃ n,
              e = Ending.returned (Value.int IntKind.i64 n) ∧
                ((n == (0 : Int)) = true →
                    Call Try.prog 11 [Value.pointer p7_t, Value.int IntKind.i64 p0_n] w' fun e w' =>
                      ∃ b,
                        e = Ending.returned (Value.bool b) ∧
                          ((!b) = true →
                              Call Try.prog 12 [Value.pointer p7_t, Value.int IntKind.i64 p0_n] w' fun e w' =>
                                ∃ n,
                                  e = Ending.returned (Value.int IntKind.i64 n) ∧
                                    ((n == (12 : Int)) = true →
                                        Call Try.prog 7 [] w' fun e w' =>
                                          ∃ b,
                                            e = Ending.returned (Value.bool b) ∧
                                              R (Ending.returned (Value.bool b)) w') ∧
                                      ((n == (12 : Int)) = false → R (Ending.returned (Value.bool false)) w')) ∧
                            ((!b) = false → R (Ending.returned (Value.bool false)) w')) ∧
                  ((n == (0 : Int)) = false → R (Ending.returned (Value.bool false)) w')) ∧
        (b = false → R (Ending.returned (Value.bool false)) w')) := by kernel_rfl
/-! davit/davitlaw15.IrqPlays -/
def M4 : Mt := { N := 119, keep := [(0, [0, 1]), (1, [0, 1, 5, 6]), (2, [1, 5, 6, 7, 8]), (3, [1, 5, 7, 32]), (4, [4]), (5, [1, 5, 7, 34]), (6, [4]), (7, [1, 5, 7, 9]), (8, [1, 5, 7, 9, 43]), (9, [1, 5, 7, 9]), (10, [1, 5, 7, 9, 10]), (11, [1, 5, 7, 9, 10, 73]), (12, [4]), (13, [1, 5, 7, 9, 10, 11, 12]), (14, [1, 5, 7, 9, 117]), (15, [4]), (16, [4])], ords := [(11, [0, 1, 2, 3, 4, 5, 6, 7, 8, 10, 11, 12, 9, 13, 14, 15, 16, 17, 19, 18, 20, 21, 22, 23]), (14, [0, 1, 2, 4, 5, 3, 6, 7, 8, 9, 10, 11, 12, 13, 14, 15, 16, 17, 18, 19, 20, 21, 22, 23, 24, 25, 26, 27, 28, 29, 30, 31, 32, 33, 34, 35, 36])], bk := [(0, []), (1, [1, 5, 7, 9])], cuts := [(16, [])], lk := [(8, [1, 5, 7, 9])] }
noncomputable def c4 : Code := bodyOf Try.f4
noncomputable def c4_0 : Code := c4.sr.sr.sr.sr.sr.sr
noncomputable def c4_1 : Code := c4.sr.sr.sr.sr.sr.sl.sr.sl.sl
def e4_0  : Env := []
def e4_1 (p1_acts_a : Option Addr) (p1_acts_n : Nat) (p1_acts_c : Nat) (p5_t : Option Addr) (p7_r : Option Addr) (p9_i : Int) : Env := [(1, SV.v (Value.slice p1_acts_a p1_acts_n p1_acts_c)), (5, SV.v (Value.pointer p5_t)), (7, SV.v (Value.pointer p7_r)), (9, SV.v (Value.int IntKind.i64 p9_i))]
def k4_0 (R : Ending → World → Prop) : Cont := retK Try.prog Try.f4.results.toList R
def k4_1 (R : Ending → World → Prop) : Cont := blockK 0 [] (seqK (fun E w => cutB (findL M4.cuts (headReg c4_0)) Try.prog M4 c4_0 E w (retK Try.prog Try.f4.results.toList R) fun E => den Try.prog M4 c4_0 E w (retK Try.prog Try.f4.results.toList R)) (retK Try.prog Try.f4.results.toList R))
theorem b4 : Try.f4.body = some c4 := by kernel_rfl
theorem n4 : Try.f4.ntmps = M4.N := by kernel_rfl
theorem u4 {p0_cpus : Int} {p1_acts_a : Option Addr} {p1_acts_n : Nat} {p1_acts_c : Nat} {w : World} {R : Ending → World → Prop} (h : den Try.prog M4 c4 (argE 0 [(Value.int IntKind.i64 p0_cpus), (Value.slice p1_acts_a p1_acts_n p1_acts_c)]) w (retK Try.prog Try.f4.results.toList R)) : Calls Try.prog 4 #[(Value.int IntKind.i64 p0_cpus), (Value.slice p1_acts_a p1_acts_n p1_acts_c)] w R := calls_den okProg Try.func4 b4 n4 (Nat.le_of_ble_eq_true rfl) h
theorem t4 (p0_cpus : Int) (p1_acts_a : Option Addr) (p1_acts_n : Nat) (p1_acts_c : Nat) (w : World) (R : Ending → World → Prop) : den Try.prog M4 c4 (argE 0 [(Value.int IntKind.i64 p0_cpus), (Value.slice p1_acts_a p1_acts_n p1_acts_c)]) w (retK Try.prog Try.f4.results.toList R) =
(Call Try.prog 6 [Value.int IntKind.i64 p0_cpus] w fun e w' =>
  ∃ p n,
    e = Ending.returned (Value.tuple #[Value.pointer p, Value.int IntKind.i64 n]) ∧
      Call Try.prog 14 [Value.int IntKind.i64 p0_cpus] w' fun e w' =>
        ∃ p_1 n_1,
          e = Ending.returned (Value.tuple #[Value.pointer p_1, Value.int IntKind.i64 n_1]) ∧
            ((n != n_1) = false →
                ((!Option.isNone p == Option.isNone p_1) = true → R (Ending.returned (Value.bool false)) w') ∧
                  ((!Option.isNone p == Option.isNone p_1) = false →
                    (Option.isNone p_1 = true →
                        Call Try.prog 7 [] w' fun e w' =>
                          ∃ b, e = Ending.returned (Value.bool b) ∧ R (Ending.returned (Value.bool b)) w') ∧
                      (Option.isNone p_1 = false →
                        Cut
                          (WP Try.prog 119 (Code.loop c4_1)
                            (e4_1 p1_acts_a p1_acts_n p1_acts_c p p_1 (0 : Int)) w' (k4_1 R))))) ∧
              ((n != n_1) = true → R (Ending.returned (Value.bool false)) w')) := by kernel_rfl
theorem t4_0  (w : World) (R : Ending → World → Prop) : den Try.prog M4 c4_0 (e4_0 ) w (k4_0 R) =
(Call Try.prog 7 [] w fun e w' =>
  ∃ b, e = Ending.returned (Value.bool b) ∧ R (Ending.returned (Value.bool b)) w') := by kernel_rfl
theorem t4_1 (p1_acts_a : Option Addr) (p1_acts_n : Nat) (p1_acts_c : Nat) (p5_t : Option Addr) (p7_r : Option Addr) (p9_i : Int) (w : World) (B4_1 : Env → World → Prop) (R : Ending → World → Prop) : den Try.prog M4 c4_1 (e4_1 p1_acts_a p1_acts_n p1_acts_c p5_t p7_r p9_i) w (loopK B4_1 (k4_1 R)) =
((decide (p9_i < (↑p1_acts_n : Int)) = true →
    (decide (p9_i < (150 : Int)) = true →
        ((0 : Int) ≤ p9_i ∧ p9_i < (↑p1_acts_n : Int)) ∧
          ∃ a,
            p1_acts_a = some a ∧
              ∃ n,
                World.cell? w (Addr.add (Addr.add a (Int.toNat p9_i * 3)) 0) =
                    some (Value.int IntKind.i64 n) ∧
                  ∃ n_1,
                    World.cell? w (Addr.add (Addr.add a (Int.toNat p9_i * 3)) 1) =
                        some (Value.int IntKind.i64 n_1) ∧
                      ∃ n_2,
                        World.cell? w (Addr.add (Addr.add a (Int.toNat p9_i * 3)) 2) =
                            some (Value.int IntKind.u64 n_2) ∧
                          New w
                            [Value.int IntKind.i64 0, Value.int IntKind.i64 0,
                              Value.int IntKind.u64 0]
                            38 fun p w' =>
                            Wr w' p [Value.int IntKind.i64 n, Value.int IntKind.i64 n_1, Value.int IntKind.u64 n_2]
                              fun w' =>
                              ∀ (w'_1 : World),
                                World.heap w'_1 = World.heap w' →
                                  World.os w'_1 = World.os w' →
                                    World.tape w'_1 = World.tape w' →
                                      World.output w'_1 = World.output w' →
                                        ∃ n,
                                          World.cell? w'_1 (Addr.add p 0) = some (Value.int IntKind.i64 n) ∧
                                            ∃ n_3,
                                              World.cell? w'_1 (Addr.add p 1) =
                                                  some (Value.int IntKind.i64 n_3) ∧
                                                ∃ n_4,
                                                  World.cell? w'_1 (Addr.add p 2) =
                                                      some (Value.int IntKind.u64 n_4) ∧
                                                    Call Try.prog 15
                                                      [Value.pointer p5_t, Value.pointer p7_r,
                                                        Value.agg
                                                          #[Value.int IntKind.i64 n, Value.int IntKind.i64 n_3,
                                                            Value.int IntKind.u64 n_4]]
                                                      w'_1 fun e w' =>
                                                      ∃ b,
                                                        e = Ending.returned (Value.bool b) ∧
                                                          ((!b) = false →
                                                              ∃ n,
                                                                World.cell? w' (Addr.add p 1) =
                                                                    some (Value.int IntKind.i64 n) ∧
                                                                  ∃ n_5,
                                                                    World.cell? w' (Addr.add p 1) =
                                                                        some (Value.int IntKind.i64 n_5) ∧
                                                                      Call Try.prog 11
                                                                        [Value.pointer p5_t, Value.int IntKind.i64 n]
                                                                        w' fun e w' =>
                                                                        ∃ b,
                                                                          e = Ending.returned (Value.bool b) ∧
                                                                            World.cell? w' (Addr.add p 1) =
                                                                                some (Value.int IntKind.i64 n_5) ∧
                                                                              Call Try.prog 16
                                                                                [Value.pointer p7_r,
                                                                                  Value.int IntKind.i64 n_5]
                                                                                w' fun e w' =>
                                                                                ∃ b_1,
                                                                                  e = Ending.returned (Value.bool b_1) ∧
                                                                                    ((!b == b_1) = false →
                                                                                        Call Try.prog 18
                                                                                          [Value.pointer p5_t] w'
                                                                                          fun e w' =>
                                                                                          ∃ p_1 n c,
                                                                                            e =
                                                                                                Ending.returned
                                                                                                  (Value.slice p_1 n
                                                                                                    c) ∧
                                                                                              Call Try.prog 19
                                                                                                [Value.pointer p7_r] w'
                                                                                                fun e w' =>
                                                                                                ∃ p_2 n_6 c_1,
                                                                                                  e =
                                                                                                      Ending.returned
                                                                                                        (Value.slice p_2
                                                                                                          n_6 c_1) ∧
                                                                                                    Call Try.prog
                                                                                                      17
                                                                                                      [Value.slice p_1 n
                                                                                                          c,
                                                                                                        Value.slice p_2
                                                                                                          n_6 c_1]
                                                                                                      w' fun e w' =>
                                                                                                      ∃ b,
                                                                                                        e =
                                                                                                            Ending.returned
                                                                                                              (Value.bool
                                                                                                                b) ∧
                                                                                                          ((!b) = true →
                                                                                                              R
                                                                                                                (Ending.returned
                                                                                                                  (Value.bool
                                                                                                                    false))
                                                                                                                w') ∧
                                                                                                            ((!b) =
                                                                                                                false →
                                                                                                              ∃ n,
                                                                                                                World.cell?
                                                                                                                      w'
                                                                                                                      (Addr.add
                                                                                                                        p
                                                                                                                        (1 :
                                                                                                                          Nat)) =
                                                                                                                    some
                                                                                                                      (Value.int
                                                                                                                        IntKind.i64
                                                                                                                        n) ∧
                                                                                                                  Call
                                                                                                                    Try.prog
                                                                                                                    (20 :
                                                                                                                      Nat)
                                                                                                                    [Value.pointer
                                                                                                                        p5_t,
                                                                                                                      Value.int
                                                                                                                        IntKind.i64
                                                                                                                        n]
                                                                                                                    w'
                                                                                                                    fun
                                                                                                                      e
                                                                                                                      w' =>
                                                                                                                    ∃ b
                                                                                                                      b_2
                                                                                                                      b_3
                                                                                                                      n
                                                                                                                      n_7,
                                                                                                                      e =
                                                                                                                          Ending.returned
                                                                                                                            (Value.tuple
                                                                                                                              #[Value.agg
                                                                                                                                  #[Value.bool
                                                                                                                                      b,
                                                                                                                                    Value.bool
                                                                                                                                      b_2,
                                                                                                                                    Value.bool
                                                                                                                                      b_3,
                                                                                                                                    Value.int
                                                                                                                                      IntKind.u64
                                                                                                                                      n],
                                                                                                                                Value.int
                                                                                                                                  IntKind.i64
                                                                                                                                  n_7]) ∧
                                                                                                                        New
                                                                                                                          w'
                                                                                                                          [Value.bool
                                                                                                                              false,
                                                                                                                            Value.bool
                                                                                                                              false,
                                                                                                                            Value.bool
                                                                                                                              false,
                                                                                                                            Value.int
                                                                                                                              IntKind.u64
                                                                                                                              (0 :
                                                                                                                                Int)]
                                                                                                                          (44 :
                                                                                                                            Nat)
                                                                                                                          fun
                                                                                                                            p_3
                                                                                                                            w' =>
                                                                                                                          Wr
                                                                                                                            w'
                                                                                                                            p_3
                                                                                                                            [Value.bool
                                                                                                                                b,
                                                                                                                              Value.bool
                                                                                                                                b_2,
                                                                                                                              Value.bool
                                                                                                                                b_3,
                                                                                                                              Value.int
                                                                                                                                IntKind.u64
                                                                                                                                n]
                                                                                                                            fun
                                                                                                                              w' =>
                                                                                                                            ∀
                                                                                                                              (w'_2 :
                                                                                                                                World),
                                                                                                                              World.heap
                                                                                                                                    w'_2 =
                                                                                                                                  World.heap
                                                                                                                                    w' →
                                                                                                                                World.os
                                                                                                                                      w'_2 =
                                                                                                                                    World.os
                                                                                                                                      w' →
                                                                                                                                  World.tape
                                                                                                                                        w'_2 =
                                                                                                                                      World.tape
                                                                                                                                        w' →
                                                                                                                                    World.output
                                                                                                                                          w'_2 =
                                                                                                                                        World.output
                                                                                                                                          w' →
                                                                                                                                      ∃
                                                                                                                                        n,
                                                                                                                                        World.cell?
                                                                                                                                              w'_2
                                                                                                                                              (Addr.add
                                                                                                                                                p
                                                                                                                                                (1 :
                                                                                                                                                  Nat)) =
                                                                                                                                            some
                                                                                                                                              (Value.int
                                                                                                                                                IntKind.i64
                                                                                                                                                n) ∧
                                                                                                                                          Call
                                                                                                                                            Try.prog
                                                                                                                                            (21 :
                                                                                                                                              Nat)
                                                                                                                                            [Value.pointer
                                                                                                                                                p7_r,
                                                                                                                                              Value.int
                                                                                                                                                IntKind.i64
                                                                                                                                                n]
                                                                                                                                            w'_2
                                                                                                                                            fun
                                                                                                                                              e
                                                                                                                                              w' =>
                                                                                                                                            ∃
                                                                                                                                              b,
                                                                                                                                              e =
                                                                                                                                                  Ending.returned
                                                                                                                                                    (Value.bool
                                                                                                                                                      b) ∧
                                                                                                                                                ((!b ==
                                                                                                                                                          (n_7 ==
                                                                                                                                                            (0 :
                                                                                                                                                              Int))) =
                                                                                                                                                      false →
                                                                                                                                                    ∃
                                                                                                                                                      n,
                                                                                                                                                      World.cell?
                                                                                                                                                            w'
                                                                                                                                                            (Addr.add
                                                                                                                                                              p
                                                                                                                                                              (1 :
                                                                                                                                                                Nat)) =
                                                                                                                                                          some
                                                                                                                                                            (Value.int
                                                                                                                                                              IntKind.i64
                                                                                                                                                              n) ∧
                                                                                                                                                        Call
                                                                                                                                                          Try.prog
                                                                                                                                                          (21 :
                                                                                                                                                            Nat)
                                                                                                                                                          [Value.pointer
                                                                                                                                                              p7_r,
                                                                                                                                                            Value.int
                                                                                                                                                              IntKind.i64
                                                                                                                                                              n]
                                                                                                                                                          w'
                                                                                                                                                          fun
                                                                                                                                                            e
                                                                                                                                                            w' =>
                                                                                                                                                          ∃
                                                                                                                                                            b,
                                                                                                                                                            e =
                                                                                                                                                                Ending.returned
                                                                                                                                                                  (Value.bool
                                                                                                                                                                    b) ∧
                                                                                                                                                              (b =
                                                                                                                                                                    true →
                                                                                                                                                                  ∃
                                                                                                                                                                    b,
                                                                                                                                                                    World.cell?
                                                                                                                                                                          w'
                                                                                                                                                                          (Addr.add
                                                                                                                                                                            p_3
                                                                                                                                                                            (0 :
                                                                                                                                                                              Nat)) =
                                                                                                                                                                        some
                                                                                                                                                                          (Value.bool
                                                                                                                                                                            b) ∧
                                                                                                                                                                      ∃
                                                                                                                                                                        b_4,
                                                                                                                                                                        World.cell?
                                                                                                                                                                              w'
                                                                                                                                                                              (Addr.add
                                                                                                                                                                                p_3
                                                                                                                                                                                (1 :
                                                                                                                                                                                  Nat)) =
                                                                                                                                                                            some
                                                                                                                                                                              (Value.bool
                                                                                                                                                                                b_4) ∧
                                                                                                                                                                          ∃
                                                                                                                                                                            b_5,
                                                                                                                                                                            World.cell?
                                                                                                                                                                                  w'
                                                                                                                                                                                  (Addr.add
                                                                                                                                                                                    p_3
                                                                                                                                                                                    (2 :
                                                                                                                                                                                      Nat)) =
                                                                                                                                                                                some
                                                                                                                                                                                  (Value.bool
                                                                                                                                                                                    b_5) ∧
                                                                                                                                                                              ∃
                                                                                                                                                                                n,
                                                                                                                                                                                World.cell?
                                                                                                                                                                                      w'
                                                                                                                                                                                      (Addr.add
                                                                                                                                                                                        p_3
                                                                                                                                                                                        (3 :
                                                                                                                                                                                          Nat)) =
                                                                                                                                                                                    some
                                                                                                                                                                                      (Value.int
                                                                                                                                                                                        IntKind.u64
                                                                                                                                                                                        n) ∧
                                                                                                                                                                                  ∃
                                                                                                                                                                                    a,
                                                                                                                                                                                    p7_r =
                                                                                                                                                                                        some
                                                                                                                                                                                          a ∧
                                                                                                                                                                                      ∃
                                                                                                                                                                                        p_4
                                                                                                                                                                                        n_8
                                                                                                                                                                                        c,
                                                                                                                                                                                        World.cell?
                                                                                                                                                                                              w'
                                                                                                                                                                                              (Addr.add
                                                                                                                                                                                                a
                                                                                                                                                                                                (1 :
                                                                                                                                                                                                  Nat)) =
                                                                                                                                                                                            some
                                                                                                                                                                                              (Value.slice
                                                                                                                                                                                                p_4
                                                                                                                                                                                                n_8
                                                                                                                                                                                                c) ∧
                                                                                                                                                                                          ∃
                                                                                                                                                                                            n_9,
                                                                                                                                                                                            World.cell?
                                                                                                                                                                                                  w'
                                                                                                                                                                                                  (Addr.add
                                                                                                                                                                                                    p
                                                                                                                                                                                                    (1 :
                                                                                                                                                                                                      Nat)) =
                                                                                                                                                                                                some
                                                                                                                                                                                                  (Value.int
                                                                                                                                                                                                    IntKind.i64
                                                                                                                                                                                                    n_9) ∧
                                                                                                                                                                                              ((0 :
                                                                                                                                                                                                      Int) ≤
                                                                                                                                                                                                    n_9 ∧
                                                                                                                                                                                                  n_9 <
                                                                                                                                                                                                    (↑n_8 :
                                                                                                                                                                                                      Int)) ∧
                                                                                                                                                                                                ∃
                                                                                                                                                                                                  a,
                                                                                                                                                                                                  p_4 =
                                                                                                                                                                                                      some
                                                                                                                                                                                                        a ∧
                                                                                                                                                                                                    ∃
                                                                                                                                                                                                      b_6,
                                                                                                                                                                                                      World.cell?
                                                                                                                                                                                                            w'
                                                                                                                                                                                                            (Addr.add
                                                                                                                                                                                                              (Addr.add
                                                                                                                                                                                                                a
                                                                                                                                                                                                                (Int.toNat
                                                                                                                                                                                                                    n_9 *
                                                                                                                                                                                                                  (4 :
                                                                                                                                                                                                                    Nat)))
                                                                                                                                                                                                              (0 :
                                                                                                                                                                                                                Nat)) =
                                                                                                                                                                                                          some
                                                                                                                                                                                                            (Value.bool
                                                                                                                                                                                                              b_6) ∧
                                                                                                                                                                                                        ∃
                                                                                                                                                                                                          b_7,
                                                                                                                                                                                                          World.cell?
                                                                                                                                                                                                                w'
                                                                                                                                                                                                                (Addr.add
                                                                                                                                                                                                                  (Addr.add
                                                                                                                                                                                                                    a
                                                                                                                                                                                                                    (Int.toNat
                                                                                                                                                                                                                        n_9 *
                                                                                                                                                                                                                      (4 :
                                                                                                                                                                                                                        Nat)))
                                                                                                                                                                                                                  (1 :
                                                                                                                                                                                                                    Nat)) =
                                                                                                                                                                                                              some
                                                                                                                                                                                                                (Value.bool
                                                                                                                                                                                                                  b_7) ∧
                                                                                                                                                                                                            ∃
                                                                                                                                                                                                              b_8,
                                                                                                                                                                                                              World.cell?
                                                                                                                                                                                                                    w'
                                                                                                                                                                                                                    (Addr.add
                                                                                                                                                                                                                      (Addr.add
                                                                                                                                                                                                                        a
                                                                                                                                                                                                                        (Int.toNat
                                                                                                                                                                                                                            n_9 *
                                                                                                                                                                                                                          (4 :
                                                                                                                                                                                                                            Nat)))
                                                                                                                                                                                                                      (2 :
                                                                                                                                                                                                                        Nat)) =
                                                                                                                                                                                                                  some
                                                                                                                                                                                                                    (Value.bool
                                                                                                                                                                                                                      b_8) ∧
                                                                                                                                                                                                                ∃
                                                                                                                                                                                                                  n_10,
                                                                                                                                                                                                                  World.cell?
                                                                                                                                                                                                                        w'
                                                                                                                                                                                                                        (Addr.add
                                                                                                                                                                                                                          (Addr.add
                                                                                                                                                                                                                            a
                                                                                                                                                                                                                            (Int.toNat
                                                                                                                                                                                                                                n_9 *
                                                                                                                                                                                                                              (4 :
                                                                                                                                                                                                                                Nat)))
                                                                                                                                                                                                                          (3 :
                                                                                                                                                                                                                            Nat)) =
                                                                                                                                                                                                                      some
                                                                                                                                                                                                                        (Value.int
                                                                                                                                                                                                                          IntKind.u64
                                                                                                                                                                                                                          n_10) ∧
                                                                                                                                                                                                                    Call
                                                                                                                                                                                                                      Try.prog
                                                                                                                                                                                                                      (22 :
                                                                                                                                                                                                                        Nat)
                                                                                                                                                                                                                      [Value.agg
                                                                                                                                                                                                                          #[Value.bool
                                                                                                                                                                                                                              b,
                                                                                                                                                                                                                            Value.bool
                                                                                                                                                                                                                              b_4,
                                                                                                                                                                                                                            Value.bool
                                                                                                                                                                                                                              b_5,
                                                                                                                                                                                                                            Value.int
                                                                                                                                                                                                                              IntKind.u64
                                                                                                                                                                                                                              n],
                                                                                                                                                                                                                        Value.agg
                                                                                                                                                                                                                          #[Value.bool
                                                                                                                                                                                                                              b_6,
                                                                                                                                                                                                                            Value.bool
                                                                                                                                                                                                                              b_7,
                                                                                                                                                                                                                            Value.bool
                                                                                                                                                                                                                              b_8,
                                                                                                                                                                                                                            Value.int
                                                                                                                                                                                                                              IntKind.u64
                                                                                                                                                                                                                              n_10]]
                                                                                                                                                                                                                      w'
                                                                                                                                                                                                                      fun
                                                                                                                                                                                                                        e
                                                                                                                                                                                                                        w' =>
                                                                                                                                                                                                                      ∃
                                                                                                                                                                                                                        b,
                                                                                                                                                                                                                        e =
                                                                                                                                                                                                                            Ending.returned
                                                                                                                                                                                                                              (Value.bool
                                                                                                                                                                                                                                b) ∧
                                                                                                                                                                                                                          ((!b) =
                                                                                                                                                                                                                                false →
                                                                                                                                                                                                                              ∃
                                                                                                                                                                                                                                n,
                                                                                                                                                                                                                                World.cell?
                                                                                                                                                                                                                                      w'
                                                                                                                                                                                                                                      (Addr.add
                                                                                                                                                                                                                                        p
                                                                                                                                                                                                                                        (1 :
                                                                                                                                                                                                                                          Nat)) =
                                                                                                                                                                                                                                    some
                                                                                                                                                                                                                                      (Value.int
                                                                                                                                                                                                                                        IntKind.i64
                                                                                                                                                                                                                                        n) ∧
                                                                                                                                                                                                                                  Call
                                                                                                                                                                                                                                    Try.prog
                                                                                                                                                                                                                                    (21 :
                                                                                                                                                                                                                                      Nat)
                                                                                                                                                                                                                                    [Value.pointer
                                                                                                                                                                                                                                        p7_r,
                                                                                                                                                                                                                                      Value.int
                                                                                                                                                                                                                                        IntKind.i64
                                                                                                                                                                                                                                        n]
                                                                                                                                                                                                                                    w'
                                                                                                                                                                                                                                    fun
                                                                                                                                                                                                                                      e
                                                                                                                                                                                                                                      w' =>
                                                                                                                                                                                                                                    ∃
                                                                                                                                                                                                                                      b,
                                                                                                                                                                                                                                      e =
                                                                                                                                                                                                                                          Ending.returned
                                                                                                                                                                                                                                            (Value.bool
                                                                                                                                                                                                                                              b) ∧
                                                                                                                                                                                                                                        ((!b) =
                                                                                                                                                                                                                                              true →
                                                                                                                                                                                                                                            ((n_7 !=
                                                                                                                                                                                                                                                    (3 :
                                                                                                                                                                                                                                                      Int)) =
                                                                                                                                                                                                                                                  true →
                                                                                                                                                                                                                                                R
                                                                                                                                                                                                                                                  (Ending.returned
                                                                                                                                                                                                                                                    (Value.bool
                                                                                                                                                                                                                                                      false))
                                                                                                                                                                                                                                                  w') ∧
                                                                                                                                                                                                                                              ((n_7 !=
                                                                                                                                                                                                                                                    (3 :
                                                                                                                                                                                                                                                      Int)) =
                                                                                                                                                                                                                                                  false →
                                                                                                                                                                                                                                                B4_1
                                                                                                                                                                                                                                                  [((1 :
                                                                                                                                                                                                                                                        Nat),
                                                                                                                                                                                                                                                      SV.v
                                                                                                                                                                                                                                                        (Value.slice
                                                                                                                                                                                                                                                          p1_acts_a
                                                                                                                                                                                                                                                          p1_acts_n
                                                                                                                                                                                                                                                          p1_acts_c)),
                                                                                                                                                                                                                                                    ((5 :
                                                                                                                                                                                                                                                        Nat),
                                                                                                                                                                                                                                                      SV.v
                                                                                                                                                                                                                                                        (Value.pointer
                                                                                                                                                                                                                                                          p5_t)),
                                                                                                                                                                                                                                                    ((7 :
                                                                                                                                                                                                                                                        Nat),
                                                                                                                                                                                                                                                      SV.v
                                                                                                                                                                                                                                                        (Value.pointer
                                                                                                                                                                                                                                                          p7_r)),
                                                                                                                                                                                                                                                    ((9 :
                                                                                                                                                                                                                                                        Nat),
                                                                                                                                                                                                                                                      SV.v
                                                                                                                                                                                                                                                        (Value.int
                                                                                                                                                                                                                                                          IntKind.i64
                                                                                                                                                                                                                                                          (IntKind.wrap
                                                                                                                                                                                                                                                            IntKind.i64
                                                                                                                                                                                                                                                            (p9_i +
                                                                                                                                                                                                                                                              (1 :
                                                                                                                                                                                                                                                                Int)))))]
                                                                                                                                                                                                                                                  w')) ∧
                                                                                                                                                                                                                                          ((!b) =
                                                                                                                                                                                                                                              false →
                                                                                                                                                                                                                                            B4_1
                                                                                                                                                                                                                                              [((1 :
                                                                                                                                                                                                                                                    Nat),
                                                                                                                                                                                                                                                  SV.v
                                                                                                                                                                                                                                                    (Value.slice
                                                                                                                                                                                                                                                      p1_acts_a
                                                                                                                                                                                                                                                      p1_acts_n
                                                                                                                                                                                                                                                      p1_acts_c)),
                                                                                                                                                                                                                                                ((5 :
                                                                                                                                                                                                                                                    Nat),
                                                                                                                                                                                                                                                  SV.v
                                                                                                                                                                                                                                                    (Value.pointer
                                                                                                                                                                                                                                                      p5_t)),
                                                                                                                                                                                                                                                ((7 :
                                                                                                                                                                                                                                                    Nat),
                                                                                                                                                                                                                                                  SV.v
                                                                                                                                                                                                                                                    (Value.pointer
                                                                                                                                                                                                                                                      p7_r)),
                                                                                                                                                                                                                                                ((9 :
                                                                                                                                                                                                                                                    Nat),
                                                                                                                                                                                                                                                  SV.v
                                                                                                                                                                                                                                                    (Value.int
                                                                                                                                                                                                                                                      IntKind.i64
                                                                                                                                                                                                                                                      (IntKind.wrap
                                                                                                                                                                                                                                                        IntKind.i64
                                                                                                                                                                                                                                                        (p9_i +
                                                                                                                                                                                                                                                          (1 :
                                                                                                                                                                                                                                                            Int)))))]
                                                                                                                                                                                                                                              w')) ∧
                                                                                                                                                                                                                            ((!b) =
                                                                                                                                                                                                                                true →
                                                                                                                                                                                                                              R
                                                                                                                                                                                                                                (Ending.returned
                                                                                                                                                                                                                                  (Value.bool
                                                                                                                                                                                                                                    false))
                                                                                                                                                                                                                                w')) ∧
                                                                                                                                                                (b =
                                                                                                                                                                    false →
                                                                                                                                                                  ∃
                                                                                                                                                                    n,
                                                                                                                                                                    World.cell?
                                                                                                                                                                          w'
                                                                                                                                                                          (Addr.add
                                                                                                                                                                            p
                                                                                                                                                                            (1 :
                                                                                                                                                                              Nat)) =
                                                                                                                                                                        some
                                                                                                                                                                          (Value.int
                                                                                                                                                                            IntKind.i64
                                                                                                                                                                            n) ∧
                                                                                                                                                                      Call
                                                                                                                                                                        Try.prog
                                                                                                                                                                        (21 :
                                                                                                                                                                          Nat)
                                                                                                                                                                        [Value.pointer
                                                                                                                                                                            p7_r,
                                                                                                                                                                          Value.int
                                                                                                                                                                            IntKind.i64
                                                                                                                                                                            n]
                                                                                                                                                                        w'
                                                                                                                                                                        fun
                                                                                                                                                                          e
                                                                                                                                                                          w' =>
                                                                                                                                                                        ∃
                                                                                                                                                                          b,
                                                                                                                                                                          e =
                                                                                                                                                                              Ending.returned
                                                                                                                                                                                (Value.bool
                                                                                                                                                                                  b) ∧
                                                                                                                                                                            ((!b) =
                                                                                                                                                                                  true →
                                                                                                                                                                                ((n_7 !=
                                                                                                                                                                                        (3 :
                                                                                                                                                                                          Int)) =
                                                                                                                                                                                      true →
                                                                                                                                                                                    R
                                                                                                                                                                                      (Ending.returned
                                                                                                                                                                                        (Value.bool
                                                                                                                                                                                          false))
                                                                                                                                                                                      w') ∧
                                                                                                                                                                                  ((n_7 !=
                                                                                                                                                                                        (3 :
                                                                                                                                                                                          Int)) =
                                                                                                                                                                                      false →
                                                                                                                                                                                    B4_1
                                                                                                                                                                                      [((1 :
                                                                                                                                                                                            Nat),
                                                                                                                                                                                          SV.v
                                                                                                                                                                                            (Value.slice
                                                                                                                                                                                              p1_acts_a
                                                                                                                                                                                              p1_acts_n
                                                                                                                                                                                              p1_acts_c)),
                                                                                                                                                                                        ((5 :
                                                                                                                                                                                            Nat),
                                                                                                                                                                                          SV.v
                                                                                                                                                                                            (Value.pointer
                                                                                                                                                                                              p5_t)),
                                                                                                                                                                                        ((7 :
                                                                                                                                                                                            Nat),
                                                                                                                                                                                          SV.v
                                                                                                                                                                                            (Value.pointer
                                                                                                                                                                                              p7_r)),
                                                                                                                                                                                        ((9 :
                                                                                                                                                                                            Nat),
                                                                                                                                                                                          SV.v
                                                                                                                                                                                            (Value.int
                                                                                                                                                                                              IntKind.i64
                                                                                                                                                                                              (IntKind.wrap
                                                                                                                                                                                                IntKind.i64
                                                                                                                                                                                                (p9_i +
                                                                                                                                                                                                  (1 :
                                                                                                                                                                                                    Int)))))]
                                                                                                                                                                                      w')) ∧
                                                                                                                                                                              ((!b) =
                                                                                                                                                                                  false →
                                                                                                                                                                                B4_1
                                                                                                                                                                                  [((1 :
                                                                                                                                                                                        Nat),
                                                                                                                                                                                      SV.v
                                                                                                                                                                                        (Value.slice
                                                                                                                                                                                          p1_acts_a
                                                                                                                                                                                          p1_acts_n
                                                                                                                                                                                          p1_acts_c)),
                                                                                                                                                                                    ((5 :
                                                                                                                                                                                        Nat),
                                                                                                                                                                                      SV.v
                                                                                                                                                                                        (Value.pointer
                                                                                                                                                                                          p5_t)),
                                                                                                                                                                                    ((7 :
                                                                                                                                                                                        Nat),
                                                                                                                                                                                      SV.v
                                                                                                                                                                                        (Value.pointer
                                                                                                                                                                                          p7_r)),
                                                                                                                                                                                    ((9 :
                                                                                                                                                                                        Nat),
                                                                                                                                                                                      SV.v
                                                                                                                                                                                        (Value.int
                                                                                                                                                                                          IntKind.i64
                                                                                                                                                                                          (IntKind.wrap
                                                                                                                                                                                            IntKind.i64
                                                                                                                                                                                            (p9_i +
                                                                                                                                                                                              (1 :
                                                                                                                                                                                                Int)))))]
                                                                                                                                                                                  w'))) ∧
                                                                                                                                                  ((!b ==
                                                                                                                                                          (n_7 ==
                                                                                                                                                            (0 :
                                                                                                                                                              Int))) =
                                                                                                                                                      true →
                                                                                                                                                    R
                                                                                                                                                      (Ending.returned
                                                                                                                                                        (Value.bool
                                                                                                                                                          false))
                                                                                                                                                      w'))) ∧
                                                                                      ((!b == b_1) = true →
                                                                                        R
                                                                                          (Ending.returned
                                                                                            (Value.bool false))
                                                                                          w')) ∧
                                                            ((!b) = true →
                                                              R (Ending.returned (Value.bool false)) w')) ∧
      (decide (p9_i < (150 : Int)) = false → CutD Try.prog M4 c4_0 e4_0 w (k4_0 R))) ∧
  (decide (p9_i < (↑p1_acts_n : Int)) = false → CutD Try.prog M4 c4_0 e4_0 w (k4_0 R))) := by kernel_rfl
/-! davit/davitlaw15.IrqNil -/
def M5 : Mt := { N := 74, keep := [(0, [0, 1]), (1, [0, 1, 5]), (2, [0, 1, 5, 7]), (3, [4])], ords := [], bk := [], cuts := [], lk := [] }
noncomputable def c5 : Code := bodyOf Try.f5
theorem b5 : Try.f5.body = some c5 := by kernel_rfl
theorem n5 : Try.f5.ntmps = M5.N := by kernel_rfl
theorem u5 {p0_n : Int} {p1_m : Int} {w : World} {R : Ending → World → Prop} (h : den Try.prog M5 c5 (argE 0 [(Value.int IntKind.i64 p0_n), (Value.int IntKind.u64 p1_m)]) w (retK Try.prog Try.f5.results.toList R)) : Calls Try.prog 5 #[(Value.int IntKind.i64 p0_n), (Value.int IntKind.u64 p1_m)] w R := calls_den okProg Try.func5 b5 n5 (Nat.le_of_ble_eq_true rfl) h
theorem t5 (p0_n : Int) (p1_m : Int) (w : World) (R : Ending → World → Prop) : den Try.prog M5 c5 (argE 0 [(Value.int IntKind.i64 p0_n), (Value.int IntKind.u64 p1_m)]) w (retK Try.prog Try.f5.results.toList R) =
(Call Try.prog 20 [Value.pointer none, Value.int IntKind.i64 p0_n] w fun e w' =>
  ∃ b b_1 b_2 n n_1,
    e =
        Ending.returned
          (Value.tuple
            #[Value.agg #[Value.bool b, Value.bool b_1, Value.bool b_2, Value.int IntKind.u64 n],
              Value.int IntKind.i64 n_1]) ∧
      New w' [Value.bool false, Value.bool false, Value.bool false, Value.int IntKind.u64 0] 44
        fun p w' =>
        Wr w' p [Value.bool b, Value.bool b_1, Value.bool b_2, Value.int IntKind.u64 n] fun w' =>
          Call Try.prog 8 [Value.pointer none, Value.int IntKind.i64 p0_n, Value.int IntKind.u64 p1_m] w'
            fun e w' =>
            ∃ n,
              e = Ending.returned (Value.int IntKind.i64 n) ∧
                ((n == (1 : Int)) = true →
                    Call Try.prog 23 [Value.pointer none, Value.int IntKind.i64 p0_n] w' fun e w' =>
                      ∃ n,
                        e = Ending.returned (Value.int IntKind.i64 n) ∧
                          ((n == (1 : Int)) = true →
                              Call Try.prog 24
                                [Value.pointer none, Value.int IntKind.i64 p0_n, Value.int IntKind.u64 1] w'
                                fun e w' =>
                                ∃ n,
                                  e = Ending.returned (Value.int IntKind.i64 n) ∧
                                    ((n == (1 : Int)) = true →
                                        Call Try.prog 9 [Value.pointer none, Value.int IntKind.i64 p0_n] w'
                                          fun e w' =>
                                          ∃ n,
                                            e = Ending.returned (Value.int IntKind.i64 n) ∧
                                              ((n == (1 : Int)) = true →
                                                  Call Try.prog 13
                                                    [Value.pointer none, Value.int IntKind.i64 p0_n] w' fun e w' =>
                                                    ∃ n,
                                                      e = Ending.returned (Value.int IntKind.i64 n) ∧
                                                        ((n == (1 : Int)) = true →
                                                            Call Try.prog 10
                                                              [Value.pointer none, Value.int IntKind.i64 p0_n] w'
                                                              fun e w' =>
                                                              ∃ n,
                                                                e = Ending.returned (Value.int IntKind.i64 n) ∧
                                                                  ((n == (1 : Int)) = true →
                                                                      Call Try.prog 12
                                                                        [Value.pointer none,
                                                                          Value.int IntKind.i64 p0_n]
                                                                        w' fun e w' =>
                                                                        ∃ n,
                                                                          e =
                                                                              Ending.returned
                                                                                (Value.int IntKind.i64 n) ∧
                                                                            ((n == (1 : Int)) = true →
                                                                                Call Try.prog 11
                                                                                  [Value.pointer none,
                                                                                    Value.int IntKind.i64 p0_n]
                                                                                  w' fun e w' =>
                                                                                  ∃ b,
                                                                                    e = Ending.returned (Value.bool b) ∧
                                                                                      ((!b) = true →
                                                                                          ((n_1 == (1 : Int)) = true →
                                                                                              Call Try.prog 18
                                                                                                [Value.pointer none] w'
                                                                                                fun e w' =>
                                                                                                ∃ p n c,
                                                                                                  e =
                                                                                                      Ending.returned
                                                                                                        (Value.slice p n
                                                                                                          c) ∧
                                                                                                    (((↑n : Int) ==
                                                                                                            (0 : Int)) =
                                                                                                          true →
                                                                                                        Call Try.prog
                                                                                                          7 []
                                                                                                          w' fun e w' =>
                                                                                                          ∃ b,
                                                                                                            e =
                                                                                                                Ending.returned
                                                                                                                  (Value.bool
                                                                                                                    b) ∧
                                                                                                              R
                                                                                                                (Ending.returned
                                                                                                                  (Value.bool
                                                                                                                    b))
                                                                                                                w') ∧
                                                                                                      (((↑n : Int) ==
                                                                                                            (0 : Int)) =
                                                                                                          false →
                                                                                                        R
                                                                                                          (Ending.returned
                                                                                                            (Value.bool
                                                                                                              false))
                                                                                                          w')) ∧
                                                                                            ((n_1 == (1 : Int)) =
                                                                                                false →
                                                                                              R
                                                                                                (Ending.returned
                                                                                                  (Value.bool false))
                                                                                                w')) ∧
                                                                                        ((!b) = false →
                                                                                          R
                                                                                            (Ending.returned
                                                                                              (Value.bool false))
                                                                                            w')) ∧
                                                                              ((n == (1 : Int)) = false →
                                                                                R (Ending.returned (Value.bool false))
                                                                                  w')) ∧
                                                                    ((n == (1 : Int)) = false →
                                                                      R (Ending.returned (Value.bool false)) w')) ∧
                                                          ((n == (1 : Int)) = false →
                                                            R (Ending.returned (Value.bool false)) w')) ∧
                                                ((n == (1 : Int)) = false →
                                                  R (Ending.returned (Value.bool false)) w')) ∧
                                      ((n == (1 : Int)) = false → R (Ending.returned (Value.bool false)) w')) ∧
                            ((n == (1 : Int)) = false → R (Ending.returned (Value.bool false)) w')) ∧
                  ((n == (1 : Int)) = false → R (Ending.returned (Value.bool false)) w')) := by kernel_rfl
/-! davit/irq.New -/
def M6 : Mt := { N := 14, keep := [(0, [0]), (1, [0, 9]), (2, [2, 3]), (3, [2, 3])], ords := [], bk := [], cuts := [], lk := [] }
noncomputable def c6 : Code := bodyOf Try.f6
theorem b6 : Try.f6.body = some c6 := by kernel_rfl
theorem n6 : Try.f6.ntmps = M6.N := by kernel_rfl
theorem u6 {p0_cpus : Int} {w : World} {R : Ending → World → Prop} (h : den Try.prog M6 c6 (argE 0 [(Value.int IntKind.i64 p0_cpus)]) w (retK Try.prog Try.f6.results.toList R)) : Calls Try.prog 6 #[(Value.int IntKind.i64 p0_cpus)] w R := calls_den okProg Try.func6 b6 n6 (Nat.le_of_ble_eq_true rfl) h
theorem t6 (p0_cpus : Int) (w : World) (R : Ending → World → Prop) : den Try.prog M6 c6 (argE 0 [(Value.int IntKind.i64 p0_cpus)]) w (retK Try.prog Try.f6.results.toList R) =
((decide (p0_cpus < (1 : Int)) = false →
    (decide (p0_cpus > (64 : Int)) = true →
        R (Ending.returned (Value.tuple #[Value.pointer none, Value.int IntKind.i64 2])) w) ∧
      (decide (p0_cpus > (64 : Int)) = false →
        Call Try.prog 25 [Value.int IntKind.i64 p0_cpus] w fun e w' =>
          ∃ n,
            e = Ending.returned (Value.int IntKind.u64 n) ∧
              New w'
                [Value.bool false, Value.bool false, Value.bool false, Value.int IntKind.u64 0,
                  Value.bool false, Value.bool false, Value.bool false, Value.int IntKind.u64 0,
                  Value.bool false, Value.bool false, Value.bool false, Value.int IntKind.u64 0,
                  Value.bool false, Value.bool false, Value.bool false, Value.int IntKind.u64 0,
                  Value.bool false, Value.bool false, Value.bool false, Value.int IntKind.u64 0,
                  Value.bool false, Value.bool false, Value.bool false, Value.int IntKind.u64 0,
                  Value.bool false, Value.bool false, Value.bool false, Value.int IntKind.u64 0,
                  Value.bool false, Value.bool false, Value.bool false, Value.int IntKind.u64 0,
                  Value.bool false, Value.bool false, Value.bool false, Value.int IntKind.u64 0,
                  Value.bool false, Value.bool false, Value.bool false, Value.int IntKind.u64 0,
                  Value.bool false, Value.bool false, Value.bool false, Value.int IntKind.u64 0,
                  Value.bool false, Value.bool false, Value.bool false, Value.int IntKind.u64 0,
                  Value.bool false, Value.bool false, Value.bool false, Value.int IntKind.u64 0,
                  Value.bool false, Value.bool false, Value.bool false, Value.int IntKind.u64 0,
                  Value.bool false, Value.bool false, Value.bool false, Value.int IntKind.u64 0,
                  Value.bool false, Value.bool false, Value.bool false, Value.int IntKind.u64 0,
                  Value.int IntKind.u64 n]
                58 fun p w' =>
                R (Ending.returned (Value.tuple #[Value.pointer (some p), Value.int IntKind.i64 0])) w')) ∧
  (decide (p0_cpus < (1 : Int)) = true →
    R (Ending.returned (Value.tuple #[Value.pointer none, Value.int IntKind.i64 2])) w)) := by kernel_rfl
/-! davit/davitlaw15.known -/
def M7 : Mt := { N := 56, keep := [(0, []), (1, [1, 2]), (2, [1, 17]), (3, [0]), (4, [1, 3]), (5, [1, 3, 4]), (6, [1, 3, 4, 5]), (7, [1, 3, 4, 5, 6]), (8, [1, 3, 4, 5, 6, 7]), (9, [0])], ords := [], bk := [], cuts := [], lk := [] }
noncomputable def c7 : Code := bodyOf Try.f7
theorem b7 : Try.f7.body = some c7 := by kernel_rfl
theorem n7 : Try.f7.ntmps = M7.N := by kernel_rfl
theorem u7  {w : World} {R : Ending → World → Prop} (h : den Try.prog M7 c7 (argE 0 []) w (retK Try.prog Try.f7.results.toList R)) : Calls Try.prog 7 #[] w R := calls_den okProg Try.func7 b7 n7 (Nat.le_of_ble_eq_true rfl) h
theorem t7  (w : World) (R : Ending → World → Prop) : den Try.prog M7 c7 (argE 0 []) w (retK Try.prog Try.f7.results.toList R) =
(Call Try.prog 6 [Value.int IntKind.i64 2] w fun e w' =>
  ∃ p n,
    e = Ending.returned (Value.tuple #[Value.pointer p, Value.int IntKind.i64 n]) ∧
      ((n != (0 : Int)) = false →
          (Option.isNone p = true → R (Ending.returned (Value.bool false)) w') ∧
            (Option.isNone p = false →
              Call Try.prog 8
                [Value.pointer p, Value.int IntKind.i64 3, Value.int IntKind.u64 1] w' fun e w' =>
                ∃ n,
                  e = Ending.returned (Value.int IntKind.i64 n) ∧
                    Call Try.prog 9 [Value.pointer p, Value.int IntKind.i64 3] w' fun e w' =>
                      ∃ n_1,
                        e = Ending.returned (Value.int IntKind.i64 n_1) ∧
                          Call Try.prog 10 [Value.pointer p, Value.int IntKind.i64 3] w' fun e w' =>
                            ∃ n_2,
                              e = Ending.returned (Value.int IntKind.i64 n_2) ∧
                                Call Try.prog 11 [Value.pointer p, Value.int IntKind.i64 3] w'
                                  fun e w' =>
                                  ∃ b,
                                    e = Ending.returned (Value.bool b) ∧
                                      Call Try.prog 13 [Value.pointer p, Value.int IntKind.i64 3] w'
                                        fun e w' =>
                                        ∃ n_3,
                                          e = Ending.returned (Value.int IntKind.i64 n_3) ∧
                                            ((n == (0 : Int)) = true →
                                                ((n_1 == (0 : Int)) = true →
                                                    ((n_2 == (0 : Int)) = true →
                                                        ((!b) = true →
                                                            ((n_3 == (0 : Int)) = true →
                                                                Call Try.prog 11
                                                                  [Value.pointer p, Value.int IntKind.i64 3] w'
                                                                  fun e w' =>
                                                                  ∃ b,
                                                                    e = Ending.returned (Value.bool b) ∧
                                                                      (b = true →
                                                                          Call Try.prog 18 [Value.pointer p] w'
                                                                            fun e w' =>
                                                                            ∃ p n c,
                                                                              e = Ending.returned (Value.slice p n c) ∧
                                                                                New w' [Value.int IntKind.i64 3]
                                                                                  3 fun p_1 w' =>
                                                                                  Call Try.prog 17
                                                                                    [Value.slice p n c,
                                                                                      Value.slice (some p_1) 1
                                                                                        1]
                                                                                    w' fun e w' =>
                                                                                    ∃ b,
                                                                                      e =
                                                                                          Ending.returned
                                                                                            (Value.bool b) ∧
                                                                                        R
                                                                                          (Ending.returned
                                                                                            (Value.bool b))
                                                                                          w') ∧
                                                                        (b = false →
                                                                          R (Ending.returned (Value.bool false)) w')) ∧
                                                              ((n_3 == (0 : Int)) = false →
                                                                R (Ending.returned (Value.bool false)) w')) ∧
                                                          ((!b) = false → R (Ending.returned (Value.bool false)) w')) ∧
                                                      ((n_2 == (0 : Int)) = false →
                                                        R (Ending.returned (Value.bool false)) w')) ∧
                                                  ((n_1 == (0 : Int)) = false →
                                                    R (Ending.returned (Value.bool false)) w')) ∧
                                              ((n == (0 : Int)) = false →
                                                R (Ending.returned (Value.bool false)) w'))) ∧
        ((n != (0 : Int)) = true → R (Ending.returned (Value.bool false)) w')) := by kernel_rfl
/-! (*davit/irq.Table).Request -/
def M8 : Mt := { N := 33, keep := [(0, [0, 1, 2]), (1, [0, 2, 7, 8]), (2, [0, 2, 7, 8, 15]), (3, [6]), (4, [0, 2, 7, 19]), (5, [6]), (6, [2, 7, 24]), (7, [6]), (8, []), (9, [6])], ords := [], bk := [(0, [2, 7])], cuts := [], lk := [] }
noncomputable def c8 : Code := bodyOf Try.f8
theorem b8 : Try.f8.body = some c8 := by kernel_rfl
theorem n8 : Try.f8.ntmps = M8.N := by kernel_rfl
theorem u8 {p0_t : Option Addr} {p1_n : Int} {p2_m : Int} {w : World} {R : Ending → World → Prop} (h : den Try.prog M8 c8 (argE 0 [(Value.pointer p0_t), (Value.int IntKind.i64 p1_n), (Value.int IntKind.u64 p2_m)]) w (retK Try.prog Try.f8.results.toList R)) : Calls Try.prog 8 #[(Value.pointer p0_t), (Value.int IntKind.i64 p1_n), (Value.int IntKind.u64 p2_m)] w R := calls_den okProg Try.func8 b8 n8 (Nat.le_of_ble_eq_true rfl) h
theorem t8 (p0_t : Option Addr) (p1_n : Int) (p2_m : Int) (w : World) (R : Ending → World → Prop) : den Try.prog M8 c8 (argE 0 [(Value.pointer p0_t), (Value.int IntKind.i64 p1_n), (Value.int IntKind.u64 p2_m)]) w (retK Try.prog Try.f8.results.toList R) =
(Call Try.prog 26 [Value.pointer p0_t, Value.int IntKind.i64 p1_n] w fun e w' =>
  ∃ p n,
    e = Ending.returned (Value.tuple #[Value.pointer p, Value.int IntKind.i64 n]) ∧
      ((n != (0 : Int)) = true → R (Ending.returned (Value.int IntKind.i64 n)) w') ∧
        ((n != (0 : Int)) = false →
          ∃ a,
            p = some a ∧
              ∃ b,
                World.cell? w' (Addr.add a 0) = some (Value.bool b) ∧
                  (b = true → R (Ending.returned (Value.int IntKind.i64 6)) w') ∧
                    (b = false →
                      Call Try.prog 27 [Value.pointer p0_t, Value.int IntKind.u64 p2_m] w' fun e w' =>
                        ∃ b,
                          e = Ending.returned (Value.bool b) ∧
                            ((!b) = true → R (Ending.returned (Value.int IntKind.i64 2)) w') ∧
                              ((!b) = false →
                                ∃ a,
                                  p = some a ∧
                                    Wr w' a
                                      [Value.bool true, Value.bool false, Value.bool false, Value.int IntKind.u64 p2_m]
                                      fun w' => R (Ending.returned (Value.int IntKind.i64 0)) w')))) := by kernel_rfl
/-! (*davit/irq.Table).Hush -/
def M9 : Mt := { N := 8, keep := [(0, [0, 1]), (1, [4])], ords := [], bk := [], cuts := [], lk := [] }
noncomputable def c9 : Code := bodyOf Try.f9
theorem b9 : Try.f9.body = some c9 := by kernel_rfl
theorem n9 : Try.f9.ntmps = M9.N := by kernel_rfl
theorem u9 {p0_t : Option Addr} {p1_n : Int} {w : World} {R : Ending → World → Prop} (h : den Try.prog M9 c9 (argE 0 [(Value.pointer p0_t), (Value.int IntKind.i64 p1_n)]) w (retK Try.prog Try.f9.results.toList R)) : Calls Try.prog 9 #[(Value.pointer p0_t), (Value.int IntKind.i64 p1_n)] w R := calls_den okProg Try.func9 b9 n9 (Nat.le_of_ble_eq_true rfl) h
theorem t9 (p0_t : Option Addr) (p1_n : Int) (w : World) (R : Ending → World → Prop) : den Try.prog M9 c9 (argE 0 [(Value.pointer p0_t), (Value.int IntKind.i64 p1_n)]) w (retK Try.prog Try.f9.results.toList R) =
(Call Try.prog 28 [Value.pointer p0_t, Value.int IntKind.i64 p1_n, Value.bool true] w fun e w' =>
  ∃ n, e = Ending.returned (Value.int IntKind.i64 n) ∧ R (Ending.returned (Value.int IntKind.i64 n)) w') := by kernel_rfl
/-! (*davit/irq.Table).Raise -/
def M10 : Mt := { N := 19, keep := [(0, [0, 1]), (1, [5, 6]), (2, [5, 6, 14]), (3, [6]), (4, [4])], ords := [], bk := [], cuts := [], lk := [] }
noncomputable def c10 : Code := bodyOf Try.f10
theorem b10 : Try.f10.body = some c10 := by kernel_rfl
theorem n10 : Try.f10.ntmps = M10.N := by kernel_rfl
theorem u10 {p0_t : Option Addr} {p1_n : Int} {w : World} {R : Ending → World → Prop} (h : den Try.prog M10 c10 (argE 0 [(Value.pointer p0_t), (Value.int IntKind.i64 p1_n)]) w (retK Try.prog Try.f10.results.toList R)) : Calls Try.prog 10 #[(Value.pointer p0_t), (Value.int IntKind.i64 p1_n)] w R := calls_den okProg Try.func10 b10 n10 (Nat.le_of_ble_eq_true rfl) h
theorem t10 (p0_t : Option Addr) (p1_n : Int) (w : World) (R : Ending → World → Prop) : den Try.prog M10 c10 (argE 0 [(Value.pointer p0_t), (Value.int IntKind.i64 p1_n)]) w (retK Try.prog Try.f10.results.toList R) =
(Call Try.prog 29 [Value.pointer p0_t, Value.int IntKind.i64 p1_n] w fun e w' =>
  ∃ p n,
    e = Ending.returned (Value.tuple #[Value.pointer p, Value.int IntKind.i64 n]) ∧
      ((n == (0 : Int)) = true →
          ∃ a,
            p = some a ∧
              Wr w' (Addr.add a 2) [Value.bool true] fun w' =>
                R (Ending.returned (Value.int IntKind.i64 n)) w') ∧
        ((n == (0 : Int)) = false → R (Ending.returned (Value.int IntKind.i64 n)) w')) := by kernel_rfl
/-! (*davit/irq.Table).Ready -/
def M11 : Mt := { N := 28, keep := [(0, [0, 1]), (1, [5, 6]), (2, [4])], ords := [], bk := [], cuts := [], lk := [] }
noncomputable def c11 : Code := bodyOf Try.f11
theorem b11 : Try.f11.body = some c11 := by kernel_rfl
theorem n11 : Try.f11.ntmps = M11.N := by kernel_rfl
theorem u11 {p0_t : Option Addr} {p1_n : Int} {w : World} {R : Ending → World → Prop} (h : den Try.prog M11 c11 (argE 0 [(Value.pointer p0_t), (Value.int IntKind.i64 p1_n)]) w (retK Try.prog Try.f11.results.toList R)) : Calls Try.prog 11 #[(Value.pointer p0_t), (Value.int IntKind.i64 p1_n)] w R := calls_den okProg Try.func11 b11 n11 (Nat.le_of_ble_eq_true rfl) h
theorem t11 (p0_t : Option Addr) (p1_n : Int) (w : World) (R : Ending → World → Prop) : den Try.prog M11 c11 (argE 0 [(Value.pointer p0_t), (Value.int IntKind.i64 p1_n)]) w (retK Try.prog Try.f11.results.toList R) =
(Call Try.prog 29 [Value.pointer p0_t, Value.int IntKind.i64 p1_n] w fun e w' =>
  ∃ p n,
    e = Ending.returned (Value.tuple #[Value.pointer p, Value.int IntKind.i64 n]) ∧
      ((n == (0 : Int)) = true →
          ∃ a,
            p = some a ∧
              ∃ b,
                World.cell? w' (Addr.add a 2) = some (Value.bool b) ∧
                  (b = true →
                      ∃ a,
                        p = some a ∧
                          ∃ b,
                            World.cell? w' (Addr.add a 1) = some (Value.bool b) ∧
                              R (Ending.returned (Value.bool !b)) w') ∧
                    (b = false → R (Ending.returned (Value.bool false)) w')) ∧
        ((n == (0 : Int)) = false → R (Ending.returned (Value.bool false)) w')) := by kernel_rfl
/-! (*davit/irq.Table).Clear -/
def M12 : Mt := { N := 32, keep := [(0, [0, 1]), (1, [5, 6]), (2, [5, 6, 13]), (3, [4]), (4, [5, 17]), (5, [4]), (6, []), (7, [4])], ords := [], bk := [(0, [5])], cuts := [], lk := [] }
noncomputable def c12 : Code := bodyOf Try.f12
theorem b12 : Try.f12.body = some c12 := by kernel_rfl
theorem n12 : Try.f12.ntmps = M12.N := by kernel_rfl
theorem u12 {p0_t : Option Addr} {p1_n : Int} {w : World} {R : Ending → World → Prop} (h : den Try.prog M12 c12 (argE 0 [(Value.pointer p0_t), (Value.int IntKind.i64 p1_n)]) w (retK Try.prog Try.f12.results.toList R)) : Calls Try.prog 12 #[(Value.pointer p0_t), (Value.int IntKind.i64 p1_n)] w R := calls_den okProg Try.func12 b12 n12 (Nat.le_of_ble_eq_true rfl) h
theorem t12 (p0_t : Option Addr) (p1_n : Int) (w : World) (R : Ending → World → Prop) : den Try.prog M12 c12 (argE 0 [(Value.pointer p0_t), (Value.int IntKind.i64 p1_n)]) w (retK Try.prog Try.f12.results.toList R) =
(Call Try.prog 29 [Value.pointer p0_t, Value.int IntKind.i64 p1_n] w fun e w' =>
  ∃ p n,
    e = Ending.returned (Value.tuple #[Value.pointer p, Value.int IntKind.i64 n]) ∧
      ((n != (0 : Int)) = true → R (Ending.returned (Value.int IntKind.i64 n)) w') ∧
        ((n != (0 : Int)) = false →
          ∃ a,
            p = some a ∧
              ∃ b,
                World.cell? w' (Addr.add a 2) = some (Value.bool b) ∧
                  ((!b) = false →
                      ∃ a,
                        p = some a ∧
                          ∃ b,
                            World.cell? w' (Addr.add a 1) = some (Value.bool b) ∧
                              (b = true → R (Ending.returned (Value.int IntKind.i64 12)) w') ∧
                                (b = false →
                                  ∃ a,
                                    p = some a ∧
                                      Wr w' (Addr.add a 2) [Value.bool false] fun w' =>
                                        R (Ending.returned (Value.int IntKind.i64 0)) w')) ∧
                    ((!b) = true → R (Ending.returned (Value.int IntKind.i64 12)) w'))) := by kernel_rfl
/-! (*davit/irq.Table).Unhush -/
def M13 : Mt := { N := 8, keep := [(0, [0, 1]), (1, [4])], ords := [], bk := [], cuts := [], lk := [] }
noncomputable def c13 : Code := bodyOf Try.f13
theorem b13 : Try.f13.body = some c13 := by kernel_rfl
theorem n13 : Try.f13.ntmps = M13.N := by kernel_rfl
theorem u13 {p0_t : Option Addr} {p1_n : Int} {w : World} {R : Ending → World → Prop} (h : den Try.prog M13 c13 (argE 0 [(Value.pointer p0_t), (Value.int IntKind.i64 p1_n)]) w (retK Try.prog Try.f13.results.toList R)) : Calls Try.prog 13 #[(Value.pointer p0_t), (Value.int IntKind.i64 p1_n)] w R := calls_den okProg Try.func13 b13 n13 (Nat.le_of_ble_eq_true rfl) h
theorem t13 (p0_t : Option Addr) (p1_n : Int) (w : World) (R : Ending → World → Prop) : den Try.prog M13 c13 (argE 0 [(Value.pointer p0_t), (Value.int IntKind.i64 p1_n)]) w (retK Try.prog Try.f13.results.toList R) =
(Call Try.prog 28 [Value.pointer p0_t, Value.int IntKind.i64 p1_n, Value.bool false] w fun e w' =>
  ∃ n, e = Ending.returned (Value.int IntKind.i64 n) ∧ R (Ending.returned (Value.int IntKind.i64 n)) w') := by kernel_rfl
/-! davit/davitref15.New -/
def M14 : Mt := { N := 14, keep := [(0, [0]), (1, [0, 9]), (2, [2, 3]), (3, [2, 3])], ords := [], bk := [], cuts := [], lk := [] }
noncomputable def c14 : Code := bodyOf Try.f14
theorem b14 : Try.f14.body = some c14 := by kernel_rfl
theorem n14 : Try.f14.ntmps = M14.N := by kernel_rfl
theorem u14 {p0_cpus : Int} {w : World} {R : Ending → World → Prop} (h : den Try.prog M14 c14 (argE 0 [(Value.int IntKind.i64 p0_cpus)]) w (retK Try.prog Try.f14.results.toList R)) : Calls Try.prog 14 #[(Value.int IntKind.i64 p0_cpus)] w R := calls_den okProg Try.func14 b14 n14 (Nat.le_of_ble_eq_true rfl) h
theorem t14 (p0_cpus : Int) (w : World) (R : Ending → World → Prop) : den Try.prog M14 c14 (argE 0 [(Value.int IntKind.i64 p0_cpus)]) w (retK Try.prog Try.f14.results.toList R) =
((decide (p0_cpus < (1 : Int)) = false →
    (decide (p0_cpus > (64 : Int)) = true →
        R (Ending.returned (Value.tuple #[Value.pointer none, Value.int IntKind.i64 2])) w) ∧
      (decide (p0_cpus > (64 : Int)) = false →
        ∃ p n c w',
          Sem.run Try.prog
                (Instr.makeSlice 50 (Value.int IntKind.i64 16) (Value.int IntKind.i64 16)) w =
              Result.ok (Value.slice p n c) w' ∧
            New w' [Value.int IntKind.i64 p0_cpus, Value.slice p n c] 52 fun p w' =>
              R (Ending.returned (Value.tuple #[Value.pointer (some p), Value.int IntKind.i64 0])) w')) ∧
  (decide (p0_cpus < (1 : Int)) = true →
    R (Ending.returned (Value.tuple #[Value.pointer none, Value.int IntKind.i64 2])) w)) := by kernel_rfl
/-! davit/davitlaw15.do -/
def M15 : Mt := { N := 93, keep := [(0, [0, 1, 5]), (1, [0, 1, 5, 9]), (2, [6]), (3, [0, 1, 5, 9, 19]), (4, [6]), (5, [0, 1, 5, 9, 34]), (6, [6]), (7, [0, 1, 5, 9, 45]), (8, [6]), (9, [0, 1, 5, 9, 60]), (10, [6]), (11, [0, 1, 5, 9, 71]), (12, [6]), (13, [0, 1, 5, 82]), (14, [6])], ords := [(2, [0, 1, 2, 4, 5, 6, 3, 7, 8, 9]), (4, [0, 1, 2, 3, 4, 6, 7, 8, 9, 10, 5, 11, 12, 13]), (6, [0, 1, 2, 4, 5, 6, 3, 7, 8, 9]), (8, [0, 1, 2, 3, 4, 6, 7, 8, 9, 10, 5, 11, 12, 13]), (10, [0, 1, 2, 4, 5, 6, 3, 7, 8, 9]), (12, [0, 1, 2, 4, 5, 6, 3, 7, 8, 9]), (14, [0, 1, 2, 4, 5, 6, 3, 7, 8, 9])], bk := [(0, [6])], cuts := [], lk := [] }
noncomputable def c15 : Code := bodyOf Try.f15
theorem b15 : Try.f15.body = some c15 := by kernel_rfl
theorem n15 : Try.f15.ntmps = M15.N := by kernel_rfl
theorem u15 {p0_t : Option Addr} {p1_r : Option Addr} {p2_a_0 : Int} {p2_a_1 : Int} {p2_a_2 : Int} {w : World} {R : Ending → World → Prop} (h : den Try.prog M15 c15 (argE 0 [(Value.pointer p0_t), (Value.pointer p1_r), (Value.agg #[(Value.int IntKind.i64 p2_a_0), (Value.int IntKind.i64 p2_a_1), (Value.int IntKind.u64 p2_a_2)])]) w (retK Try.prog Try.f15.results.toList R)) : Calls Try.prog 15 #[(Value.pointer p0_t), (Value.pointer p1_r), (Value.agg #[(Value.int IntKind.i64 p2_a_0), (Value.int IntKind.i64 p2_a_1), (Value.int IntKind.u64 p2_a_2)])] w R := calls_den okProg Try.func15 b15 n15 (Nat.le_of_ble_eq_true rfl) h
theorem t15 (p0_t : Option Addr) (p1_r : Option Addr) (p2_a_0 : Int) (p2_a_1 : Int) (p2_a_2 : Int) (w : World) (R : Ending → World → Prop) : den Try.prog M15 c15 (argE 0 [(Value.pointer p0_t), (Value.pointer p1_r), (Value.agg #[(Value.int IntKind.i64 p2_a_0), (Value.int IntKind.i64 p2_a_1), (Value.int IntKind.u64 p2_a_2)])]) w (retK Try.prog Try.f15.results.toList R) =
(New w [Value.int IntKind.i64 p2_a_0, Value.int IntKind.i64 p2_a_1, Value.int IntKind.u64 p2_a_2] 38
  fun p w' =>
  ∃ n,
    World.cell? w' (Addr.add p 0) = some (Value.int IntKind.i64 n) ∧
      (7 : Int) ≠ (0 : Int) ∧
        ((Int.tmod n (7 : Int) == (0 : Int)) = true →
            ∀ (w'_1 : World),
              World.heap w'_1 = World.heap w' →
                World.os w'_1 = World.os w' →
                  World.tape w'_1 = World.tape w' →
                    World.output w'_1 = World.output w' →
                      ∃ n,
                        World.cell? w'_1 (Addr.add p 1) = some (Value.int IntKind.i64 n) ∧
                          ∃ n_1,
                            World.cell? w'_1 (Addr.add p 2) = some (Value.int IntKind.u64 n_1) ∧
                              ∃ n_2,
                                World.cell? w'_1 (Addr.add p 1) = some (Value.int IntKind.i64 n_2) ∧
                                  ∃ n_3,
                                    World.cell? w'_1 (Addr.add p 2) = some (Value.int IntKind.u64 n_3) ∧
                                      Call Try.prog 8
                                        [Value.pointer p0_t, Value.int IntKind.i64 n, Value.int IntKind.u64 n_1] w'_1
                                        fun e w' =>
                                        ∃ n,
                                          e = Ending.returned (Value.int IntKind.i64 n) ∧
                                            World.cell? w' (Addr.add p 2) = some (Value.int IntKind.u64 n_3) ∧
                                              World.cell? w' (Addr.add p 1) = some (Value.int IntKind.i64 n_2) ∧
                                                Call Try.prog 30
                                                  [Value.pointer p1_r, Value.int IntKind.i64 n_2,
                                                    Value.int IntKind.u64 n_3]
                                                  w' fun e w' =>
                                                  ∃ n_4,
                                                    e = Ending.returned (Value.int IntKind.i64 n_4) ∧
                                                      R (Ending.returned (Value.bool (n == n_4))) w') ∧
          ((Int.tmod n (7 : Int) == (0 : Int)) = false →
            ((Int.tmod n (7 : Int) == (1 : Int)) = true →
                ∀ (w'_1 : World),
                  World.heap w'_1 = World.heap w' →
                    World.os w'_1 = World.os w' →
                      World.tape w'_1 = World.tape w' →
                        World.output w'_1 = World.output w' →
                          ∃ n,
                            World.cell? w'_1 (Addr.add p 1) = some (Value.int IntKind.i64 n) ∧
                              ∃ n_1,
                                World.cell? w'_1 (Addr.add p 1) = some (Value.int IntKind.i64 n_1) ∧
                                  Call Try.prog 23 [Value.pointer p0_t, Value.int IntKind.i64 n] w'_1
                                    fun e w' =>
                                    ∃ n,
                                      e = Ending.returned (Value.int IntKind.i64 n) ∧
                                        World.cell? w' (Addr.add p 1) = some (Value.int IntKind.i64 n_1) ∧
                                          Call Try.prog 31 [Value.pointer p1_r, Value.int IntKind.i64 n_1] w'
                                            fun e w' =>
                                            ∃ n_2,
                                              e = Ending.returned (Value.int IntKind.i64 n_2) ∧
                                                R (Ending.returned (Value.bool (n == n_2))) w') ∧
              ((Int.tmod n (7 : Int) == (1 : Int)) = false →
                ((Int.tmod n (7 : Int) == (2 : Int)) = true →
                    ∀ (w'_1 : World),
                      World.heap w'_1 = World.heap w' →
                        World.os w'_1 = World.os w' →
                          World.tape w'_1 = World.tape w' →
                            World.output w'_1 = World.output w' →
                              ∃ n,
                                World.cell? w'_1 (Addr.add p 1) = some (Value.int IntKind.i64 n) ∧
                                  ∃ n_1,
                                    World.cell? w'_1 (Addr.add p 2) = some (Value.int IntKind.u64 n_1) ∧
                                      ∃ n_2,
                                        World.cell? w'_1 (Addr.add p 1) = some (Value.int IntKind.i64 n_2) ∧
                                          ∃ n_3,
                                            World.cell? w'_1 (Addr.add p 2) = some (Value.int IntKind.u64 n_3) ∧
                                              Call Try.prog 24
                                                [Value.pointer p0_t, Value.int IntKind.i64 n,
                                                  Value.int IntKind.u64 n_1]
                                                w'_1 fun e w' =>
                                                ∃ n,
                                                  e = Ending.returned (Value.int IntKind.i64 n) ∧
                                                    World.cell? w' (Addr.add p 2) =
                                                        some (Value.int IntKind.u64 n_3) ∧
                                                      World.cell? w' (Addr.add p 1) =
                                                          some (Value.int IntKind.i64 n_2) ∧
                                                        Call Try.prog 32
                                                          [Value.pointer p1_r, Value.int IntKind.i64 n_2,
                                                            Value.int IntKind.u64 n_3]
                                                          w' fun e w' =>
                                                          ∃ n_4,
                                                            e = Ending.returned (Value.int IntKind.i64 n_4) ∧
                                                              R (Ending.returned (Value.bool (n == n_4))) w') ∧
                  ((Int.tmod n (7 : Int) == (2 : Int)) = false →
                    ((Int.tmod n (7 : Int) == (3 : Int)) = true →
                        ∀ (w'_1 : World),
                          World.heap w'_1 = World.heap w' →
                            World.os w'_1 = World.os w' →
                              World.tape w'_1 = World.tape w' →
                                World.output w'_1 = World.output w' →
                                  ∃ n,
                                    World.cell? w'_1 (Addr.add p 1) = some (Value.int IntKind.i64 n) ∧
                                      ∃ n_1,
                                        World.cell? w'_1 (Addr.add p 1) = some (Value.int IntKind.i64 n_1) ∧
                                          Call Try.prog 9 [Value.pointer p0_t, Value.int IntKind.i64 n] w'_1
                                            fun e w' =>
                                            ∃ n,
                                              e = Ending.returned (Value.int IntKind.i64 n) ∧
                                                World.cell? w' (Addr.add p 1) =
                                                    some (Value.int IntKind.i64 n_1) ∧
                                                  Call Try.prog 33
                                                    [Value.pointer p1_r, Value.int IntKind.i64 n_1, Value.bool true] w'
                                                    fun e w' =>
                                                    ∃ n_2,
                                                      e = Ending.returned (Value.int IntKind.i64 n_2) ∧
                                                        R (Ending.returned (Value.bool (n == n_2))) w') ∧
                      ((Int.tmod n (7 : Int) == (3 : Int)) = false →
                        ((Int.tmod n (7 : Int) == (4 : Int)) = true →
                            ∀ (w'_1 : World),
                              World.heap w'_1 = World.heap w' →
                                World.os w'_1 = World.os w' →
                                  World.tape w'_1 = World.tape w' →
                                    World.output w'_1 = World.output w' →
                                      ∃ n,
                                        World.cell? w'_1 (Addr.add p 1) = some (Value.int IntKind.i64 n) ∧
                                          ∃ n_1,
                                            World.cell? w'_1 (Addr.add p 1) = some (Value.int IntKind.i64 n_1) ∧
                                              Call Try.prog 13 [Value.pointer p0_t, Value.int IntKind.i64 n]
                                                w'_1 fun e w' =>
                                                ∃ n,
                                                  e = Ending.returned (Value.int IntKind.i64 n) ∧
                                                    World.cell? w' (Addr.add p 1) =
                                                        some (Value.int IntKind.i64 n_1) ∧
                                                      Call Try.prog 33
                                                        [Value.pointer p1_r, Value.int IntKind.i64 n_1,
                                                          Value.bool false]
                                                        w' fun e w' =>
                                                        ∃ n_2,
                                                          e = Ending.returned (Value.int IntKind.i64 n_2) ∧
                                                            R (Ending.returned (Value.bool (n == n_2))) w') ∧
                          ((Int.tmod n (7 : Int) == (4 : Int)) = false →
                            ((Int.tmod n (7 : Int) == (5 : Int)) = true →
                                ∀ (w'_1 : World),
                                  World.heap w'_1 = World.heap w' →
                                    World.os w'_1 = World.os w' →
                                      World.tape w'_1 = World.tape w' →
                                        World.output w'_1 = World.output w' →
                                          ∃ n,
                                            World.cell? w'_1 (Addr.add p 1) = some (Value.int IntKind.i64 n) ∧
                                              ∃ n_1,
                                                World.cell? w'_1 (Addr.add p 1) =
                                                    some (Value.int IntKind.i64 n_1) ∧
                                                  Call Try.prog 10
                                                    [Value.pointer p0_t, Value.int IntKind.i64 n] w'_1 fun e w' =>
                                                    ∃ n,
                                                      e = Ending.returned (Value.int IntKind.i64 n) ∧
                                                        World.cell? w' (Addr.add p 1) =
                                                            some (Value.int IntKind.i64 n_1) ∧
                                                          Call Try.prog 34
                                                            [Value.pointer p1_r, Value.int IntKind.i64 n_1] w'
                                                            fun e w' =>
                                                            ∃ n_2,
                                                              e = Ending.returned (Value.int IntKind.i64 n_2) ∧
                                                                R (Ending.returned (Value.bool (n == n_2))) w') ∧
                              ((Int.tmod n (7 : Int) == (5 : Int)) = false →
                                ∀ (w'_1 : World),
                                  World.heap w'_1 = World.heap w' →
                                    World.os w'_1 = World.os w' →
                                      World.tape w'_1 = World.tape w' →
                                        World.output w'_1 = World.output w' →
                                          ∃ n,
                                            World.cell? w'_1 (Addr.add p 1) = some (Value.int IntKind.i64 n) ∧
                                              ∃ n_1,
                                                World.cell? w'_1 (Addr.add p 1) =
                                                    some (Value.int IntKind.i64 n_1) ∧
                                                  Call Try.prog 12
                                                    [Value.pointer p0_t, Value.int IntKind.i64 n] w'_1 fun e w' =>
                                                    ∃ n,
                                                      e = Ending.returned (Value.int IntKind.i64 n) ∧
                                                        World.cell? w' (Addr.add p 1) =
                                                            some (Value.int IntKind.i64 n_1) ∧
                                                          Call Try.prog 35
                                                            [Value.pointer p1_r, Value.int IntKind.i64 n_1] w'
                                                            fun e w' =>
                                                            ∃ n_2,
                                                              e = Ending.returned (Value.int IntKind.i64 n_2) ∧
                                                                R (Ending.returned (Value.bool (n == n_2))) w'))))))) := by kernel_rfl
/-! (*davit/davitref15.Table).Ready -/
def M16 : Mt := { N := 39, keep := [(0, [0, 1]), (1, [4])], ords := [], bk := [], cuts := [], lk := [] }
noncomputable def c16 : Code := bodyOf Try.f16
theorem b16 : Try.f16.body = some c16 := by kernel_rfl
theorem n16 : Try.f16.ntmps = M16.N := by kernel_rfl
theorem u16 {p0_t : Option Addr} {p1_n : Int} {w : World} {R : Ending → World → Prop} (h : den Try.prog M16 c16 (argE 0 [(Value.pointer p0_t), (Value.int IntKind.i64 p1_n)]) w (retK Try.prog Try.f16.results.toList R)) : Calls Try.prog 16 #[(Value.pointer p0_t), (Value.int IntKind.i64 p1_n)] w R := calls_den okProg Try.func16 b16 n16 (Nat.le_of_ble_eq_true rfl) h
theorem t16 (p0_t : Option Addr) (p1_n : Int) (w : World) (R : Ending → World → Prop) : den Try.prog M16 c16 (argE 0 [(Value.pointer p0_t), (Value.int IntKind.i64 p1_n)]) w (retK Try.prog Try.f16.results.toList R) =
(Call Try.prog 21 [Value.pointer p0_t, Value.int IntKind.i64 p1_n] w fun e w' =>
  ∃ b,
    e = Ending.returned (Value.bool b) ∧
      (b = true →
          ∃ a,
            p0_t = some a ∧
              ∃ p n c,
                World.cell? w' (Addr.add a 1) = some (Value.slice p n c) ∧
                  ((0 : Int) ≤ p1_n ∧ p1_n < (↑n : Int)) ∧
                    ∃ a,
                      p = some a ∧
                        ∃ b,
                          World.cell? w' (Addr.add (Addr.add a (Int.toNat p1_n * 4)) 0) =
                              some (Value.bool b) ∧
                            (b = true →
                                ∃ a,
                                  p0_t = some a ∧
                                    ∃ p n c,
                                      World.cell? w' (Addr.add a 1) = some (Value.slice p n c) ∧
                                        ((0 : Int) ≤ p1_n ∧ p1_n < (↑n : Int)) ∧
                                          ∃ a,
                                            p = some a ∧
                                              ∃ b,
                                                World.cell? w'
                                                      (Addr.add (Addr.add a (Int.toNat p1_n * 4)) 2) =
                                                    some (Value.bool b) ∧
                                                  (b = true →
                                                      ∃ a,
                                                        p0_t = some a ∧
                                                          ∃ p n c,
                                                            World.cell? w' (Addr.add a 1) =
                                                                some (Value.slice p n c) ∧
                                                              ((0 : Int) ≤ p1_n ∧ p1_n < (↑n : Int)) ∧
                                                                ∃ a,
                                                                  p = some a ∧
                                                                    ∃ b,
                                                                      World.cell? w'
                                                                            (Addr.add
                                                                              (Addr.add a (Int.toNat p1_n * 4))
                                                                              1) =
                                                                          some (Value.bool b) ∧
                                                                        R (Ending.returned (Value.bool !b)) w') ∧
                                                    (b = false → R (Ending.returned (Value.bool false)) w')) ∧
                              (b = false → R (Ending.returned (Value.bool false)) w')) ∧
        (b = false → R (Ending.returned (Value.bool false)) w')) := by kernel_rfl
/-! davit/davitref01.Ints -/
def M17 : Mt := { N := 26, keep := [(0, [0, 1]), (1, [0, 1, 10]), (2, [4]), (3, [0, 1, 5]), (4, [0, 1, 5, 14]), (5, [0, 1, 5]), (6, [0, 1, 5, 25]), (7, [4]), (8, [4])], ords := [(6, [0, 1, 2, 3, 4, 5, 6, 7, 8])], bk := [(0, []), (1, [0, 1, 5])], cuts := [], lk := [(4, [0, 1, 5])] }
noncomputable def c17 : Code := bodyOf Try.f17
noncomputable def c17_0 : Code := c17.sr.sr.sr
noncomputable def c17_1 : Code := c17.sr.sr.sl.sr.sl.sl
def e17_1 (p0_a_a : Option Addr) (p0_a_n : Nat) (p0_a_c : Nat) (p1_b_a : Option Addr) (p1_b_n : Nat) (p1_b_c : Nat) (p5_i : Int) : Env := [(0, SV.v (Value.slice p0_a_a p0_a_n p0_a_c)), (1, SV.v (Value.slice p1_b_a p1_b_n p1_b_c)), (5, SV.v (Value.int IntKind.i64 p5_i))]
def k17_1 (R : Ending → World → Prop) : Cont := blockK 0 [] (seqK (fun E w => cutB (findL M17.cuts (headReg c17_0)) Try.prog M17 c17_0 E w (retK Try.prog Try.f17.results.toList R) fun E => den Try.prog M17 c17_0 E w (retK Try.prog Try.f17.results.toList R)) (retK Try.prog Try.f17.results.toList R))
theorem b17 : Try.f17.body = some c17 := by kernel_rfl
theorem n17 : Try.f17.ntmps = M17.N := by kernel_rfl
theorem u17 {p0_a_a : Option Addr} {p0_a_n : Nat} {p0_a_c : Nat} {p1_b_a : Option Addr} {p1_b_n : Nat} {p1_b_c : Nat} {w : World} {R : Ending → World → Prop} (h : den Try.prog M17 c17 (argE 0 [(Value.slice p0_a_a p0_a_n p0_a_c), (Value.slice p1_b_a p1_b_n p1_b_c)]) w (retK Try.prog Try.f17.results.toList R)) : Calls Try.prog 17 #[(Value.slice p0_a_a p0_a_n p0_a_c), (Value.slice p1_b_a p1_b_n p1_b_c)] w R := calls_den okProg Try.func17 b17 n17 (Nat.le_of_ble_eq_true rfl) h
theorem t17 (p0_a_a : Option Addr) (p0_a_n : Nat) (p0_a_c : Nat) (p1_b_a : Option Addr) (p1_b_n : Nat) (p1_b_c : Nat) (w : World) (R : Ending → World → Prop) : den Try.prog M17 c17 (argE 0 [(Value.slice p0_a_a p0_a_n p0_a_c), (Value.slice p1_b_a p1_b_n p1_b_c)]) w (retK Try.prog Try.f17.results.toList R) =
((((↑p0_a_n : Int) != (↑p1_b_n : Int)) = true → R (Ending.returned (Value.bool false)) w) ∧
  (((↑p0_a_n : Int) != (↑p1_b_n : Int)) = false →
    Cut
      (WP Try.prog 26 (Code.loop c17_1) (e17_1 p0_a_a p0_a_n p0_a_c p1_b_a p1_b_n p1_b_c (0 : Int)) w
        (k17_1 R)))) := by kernel_rfl
theorem t17_1 (p0_a_a : Option Addr) (p0_a_n : Nat) (p0_a_c : Nat) (p1_b_a : Option Addr) (p1_b_n : Nat) (p1_b_c : Nat) (p5_i : Int) (w : World) (B17_1 : Env → World → Prop) (R : Ending → World → Prop) : den Try.prog M17 c17_1 (e17_1 p0_a_a p0_a_n p0_a_c p1_b_a p1_b_n p1_b_c p5_i) w (loopK B17_1 (k17_1 R)) =
((decide (p5_i < (↑p0_a_n : Int)) = true →
    ∀ (w' : World),
      World.heap w' = World.heap w →
        World.os w' = World.os w →
          World.tape w' = World.tape w →
            World.output w' = World.output w →
              ((0 : Int) ≤ p5_i ∧ p5_i < (↑p0_a_n : Int)) ∧
                ∃ a,
                  p0_a_a = some a ∧
                    ∃ n,
                      World.cell? w' (Addr.add a (Int.toNat p5_i * 1)) = some (Value.int IntKind.i64 n) ∧
                        ((0 : Int) ≤ p5_i ∧ p5_i < (↑p1_b_n : Int)) ∧
                          ∃ a,
                            p1_b_a = some a ∧
                              ∃ n_1,
                                World.cell? w' (Addr.add a (Int.toNat p5_i * 1)) =
                                    some (Value.int IntKind.i64 n_1) ∧
                                  ((n != n_1) = true → R (Ending.returned (Value.bool false)) w') ∧
                                    ((n != n_1) = false →
                                      B17_1
                                        [(0, SV.v (Value.slice p0_a_a p0_a_n p0_a_c)),
                                          (1, SV.v (Value.slice p1_b_a p1_b_n p1_b_c)),
                                          (5,
                                            SV.v
                                              (Value.int IntKind.i64 (IntKind.wrap IntKind.i64 (p5_i + (1 : Int)))))]
                                        w')) ∧
  (decide (p5_i < (↑p0_a_n : Int)) = false → R (Ending.returned (Value.bool true)) w)) := by kernel_rfl
/-! (*davit/irq.Table).List -/
def M18 : Mt := { N := 24, keep := [(0, [0]), (1, [0, 7]), (2, [2]), (3, [0, 3]), (4, [3, 11, 12]), (5, [3, 11, 12, 13]), (6, [3, 4, 5, 11, 12]), (7, [3, 4, 11, 12, 17]), (8, [3, 11, 12]), (9, [3, 11, 12]), (10, [2])], ords := [], bk := [(0, [3]), (1, [3, 11, 12])], cuts := [], lk := [(5, [3, 11, 12])] }
noncomputable def c18 : Code := bodyOf Try.f18
noncomputable def c18_0 : Code := c18.sr.sr.sr.sr
noncomputable def c18_1 : Code := c18.sr.sr.sr.sl.sr.sl.sl
def e18_1 (p3_l_a : Option Addr) (p3_l_n : Nat) (p3_l_c : Nat) (p11_t : List Value) (p12_t : Int) : Env := [(3, SV.v (Value.slice p3_l_a p3_l_n p3_l_c)), (11, SV.v (Value.agg p11_t.toArray)), (12, SV.v (Value.int IntKind.i64 p12_t))]
def k18_1 (R : Ending → World → Prop) : Cont := blockK 0 [3] (seqK (fun E w => cutB (findL M18.cuts (headReg c18_0)) Try.prog M18 c18_0 E w (retK Try.prog Try.f18.results.toList R) fun E => den Try.prog M18 c18_0 E w (retK Try.prog Try.f18.results.toList R)) (retK Try.prog Try.f18.results.toList R))
theorem b18 : Try.f18.body = some c18 := by kernel_rfl
theorem n18 : Try.f18.ntmps = M18.N := by kernel_rfl
theorem u18 {p0_t : Option Addr} {w : World} {R : Ending → World → Prop} (h : den Try.prog M18 c18 (argE 0 [(Value.pointer p0_t)]) w (retK Try.prog Try.f18.results.toList R)) : Calls Try.prog 18 #[(Value.pointer p0_t)] w R := calls_den okProg Try.func18 b18 n18 (Nat.le_of_ble_eq_true rfl) h
theorem t18 (p0_t : Option Addr) (w : World) (R : Ending → World → Prop) : den Try.prog M18 c18 (argE 0 [(Value.pointer p0_t)]) w (retK Try.prog Try.f18.results.toList R) =
((Option.isNone p0_t = true → R (Ending.returned (Value.slice none 0 0)) w) ∧
  (Option.isNone p0_t = false →
    ∃ a,
      p0_t = some a ∧
        ∃ cs,
          List.length cs = 64 ∧
            (∀ (j : Nat) (v : Value), cs[j]? = some v → World.cell? w (Addr.add (Addr.add a 0) j) = some v) ∧
              Cut
                (WP Try.prog 24 (Code.loop c18_1) (e18_1 none 0 0 cs (0 : Int)) w (k18_1 R)))) := by kernel_rfl
theorem t18_1 (p3_l_a : Option Addr) (p3_l_n : Nat) (p3_l_c : Nat) (p11_t : List Value) (p12_t : Int) (w : World) (B18_1 : Env → World → Prop) (R : Ending → World → Prop) : den Try.prog M18 c18_1 (e18_1 p3_l_a p3_l_n p3_l_c p11_t p12_t) w (loopK B18_1 (k18_1 R)) =
((decide (p12_t < (16 : Int)) = true →
    ((0 : Int) ≤ p12_t ∧ p12_t < (↑16 : Int)) ∧
      ∃ b b_1 b_2 n,
        List.take 4 (List.drop (Int.toNat p12_t * 4) (Array.toList (List.toArray p11_t))) =
            [Value.bool b, Value.bool b_1, Value.bool b_2, Value.int IntKind.u64 n] ∧
          New w [Value.bool false, Value.bool false, Value.bool false, Value.int IntKind.u64 0] 44
            fun p w' =>
            Wr w' p [Value.bool b, Value.bool b_1, Value.bool b_2, Value.int IntKind.u64 n] fun w' =>
              ∃ b,
                World.cell? w' (Addr.add p 0) = some (Value.bool b) ∧
                  (b = true →
                      New w' [Value.int IntKind.i64 p12_t] 3 fun p w' =>
                        ∃ p_1 n c w'_1,
                          Sem.run Try.prog
                                (Builtin.append_ #[41, 41] 41
                                  #[Value.slice p3_l_a p3_l_n p3_l_c, Value.slice (some p) 1 1])
                                w' =
                              Result.ok (Value.slice p_1 n c) w'_1 ∧
                            B18_1
                              [(3, SV.v (Value.slice p_1 n c)),
                                (11, SV.v (Value.agg (List.toArray p11_t))),
                                (12,
                                  SV.v (Value.int IntKind.i64 (IntKind.wrap IntKind.i64 (p12_t + (1 : Int)))))]
                              w'_1) ∧
                    (b = false →
                      B18_1
                        [(3, SV.v (Value.slice p3_l_a p3_l_n p3_l_c)),
                          (11, SV.v (Value.agg (List.toArray p11_t))),
                          (12, SV.v (Value.int IntKind.i64 (IntKind.wrap IntKind.i64 (p12_t + (1 : Int)))))]
                        w')) ∧
  (decide (p12_t < (16 : Int)) = false → R (Ending.returned (Value.slice p3_l_a p3_l_n p3_l_c)) w)) := by kernel_rfl
/-! (*davit/davitref15.Table).List -/
def M19 : Mt := { N := 27, keep := [(0, [0]), (1, [0, 3]), (2, [0, 3, 4]), (3, [0, 3, 4, 11]), (4, [0, 3, 4]), (5, [0, 3, 4, 21]), (6, [0, 3, 4]), (7, [2])], ords := [], bk := [(0, [3]), (1, [0, 3, 4])], cuts := [], lk := [(3, [0, 3, 4])] }
noncomputable def c19 : Code := bodyOf Try.f19
noncomputable def c19_0 : Code := c19.sr.sr.sr
noncomputable def c19_1 : Code := c19.sr.sr.sl.sr.sl.sl
def e19_1 (p0_t : Option Addr) (p3_out_a : Option Addr) (p3_out_n : Nat) (p3_out_c : Nat) (p4_i : Int) : Env := [(0, SV.v (Value.pointer p0_t)), (3, SV.v (Value.slice p3_out_a p3_out_n p3_out_c)), (4, SV.v (Value.int IntKind.i64 p4_i))]
def k19_1 (R : Ending → World → Prop) : Cont := blockK 0 [3] (seqK (fun E w => cutB (findL M19.cuts (headReg c19_0)) Try.prog M19 c19_0 E w (retK Try.prog Try.f19.results.toList R) fun E => den Try.prog M19 c19_0 E w (retK Try.prog Try.f19.results.toList R)) (retK Try.prog Try.f19.results.toList R))
theorem b19 : Try.f19.body = some c19 := by kernel_rfl
theorem n19 : Try.f19.ntmps = M19.N := by kernel_rfl
theorem u19 {p0_t : Option Addr} {w : World} {R : Ending → World → Prop} (h : den Try.prog M19 c19 (argE 0 [(Value.pointer p0_t)]) w (retK Try.prog Try.f19.results.toList R)) : Calls Try.prog 19 #[(Value.pointer p0_t)] w R := calls_den okProg Try.func19 b19 n19 (Nat.le_of_ble_eq_true rfl) h
theorem t19 (p0_t : Option Addr) (w : World) (R : Ending → World → Prop) : den Try.prog M19 c19 (argE 0 [(Value.pointer p0_t)]) w (retK Try.prog Try.f19.results.toList R) =
(Cut (WP Try.prog 27 (Code.loop c19_1) (e19_1 p0_t none 0 0 (0 : Int)) w (k19_1 R))) := by kernel_rfl
theorem t19_1 (p0_t : Option Addr) (p3_out_a : Option Addr) (p3_out_n : Nat) (p3_out_c : Nat) (p4_i : Int) (w : World) (B19_1 : Env → World → Prop) (R : Ending → World → Prop) : den Try.prog M19 c19_1 (e19_1 p0_t p3_out_a p3_out_n p3_out_c p4_i) w (loopK B19_1 (k19_1 R)) =
(∃ a,
  p0_t = some a ∧
    ∃ p n c,
      World.cell? w (Addr.add a 1) = some (Value.slice p n c) ∧
        (decide (p4_i < (↑n : Int)) = true →
            ∃ a,
              p0_t = some a ∧
                ∃ p n c,
                  World.cell? w (Addr.add a 1) = some (Value.slice p n c) ∧
                    ((0 : Int) ≤ p4_i ∧ p4_i < (↑n : Int)) ∧
                      ∃ a,
                        p = some a ∧
                          ∃ b,
                            World.cell? w (Addr.add (Addr.add a (Int.toNat p4_i * 4)) 0) =
                                some (Value.bool b) ∧
                              (b = true →
                                  New w [Value.int IntKind.i64 p4_i] 3 fun p w' =>
                                    ∃ p_1 n c w'_1,
                                      Sem.run Try.prog
                                            (Builtin.append_ #[41, 41] 41
                                              #[Value.slice p3_out_a p3_out_n p3_out_c,
                                                Value.slice (some p) 1 1])
                                            w' =
                                          Result.ok (Value.slice p_1 n c) w'_1 ∧
                                        B19_1
                                          [(0, SV.v (Value.pointer p0_t)),
                                            (3, SV.v (Value.slice p_1 n c)),
                                            (4,
                                              SV.v
                                                (Value.int IntKind.i64 (IntKind.wrap IntKind.i64 (p4_i + (1 : Int)))))]
                                          w'_1) ∧
                                (b = false →
                                  B19_1
                                    [(0, SV.v (Value.pointer p0_t)),
                                      (3, SV.v (Value.slice p3_out_a p3_out_n p3_out_c)),
                                      (4,
                                        SV.v (Value.int IntKind.i64 (IntKind.wrap IntKind.i64 (p4_i + (1 : Int)))))]
                                    w)) ∧
          (decide (p4_i < (↑n : Int)) = false → R (Ending.returned (Value.slice p3_out_a p3_out_n p3_out_c)) w)) := by kernel_rfl
/-! (*davit/irq.Table).Get -/
def M20 : Mt := { N := 21, keep := [(0, [0, 1, 4]), (1, [4, 6, 7]), (2, [4, 6, 7, 15]), (3, [4, 5]), (4, [4, 5])], ords := [], bk := [], cuts := [], lk := [] }
noncomputable def c20 : Code := bodyOf Try.f20
theorem b20 : Try.f20.body = some c20 := by kernel_rfl
theorem n20 : Try.f20.ntmps = M20.N := by kernel_rfl
theorem u20 {p0_t : Option Addr} {p1_n : Int} {w : World} {R : Ending → World → Prop} (h : den Try.prog M20 c20 (argE 0 [(Value.pointer p0_t), (Value.int IntKind.i64 p1_n)]) w (retK Try.prog Try.f20.results.toList R)) : Calls Try.prog 20 #[(Value.pointer p0_t), (Value.int IntKind.i64 p1_n)] w R := calls_den okProg Try.func20 b20 n20 (Nat.le_of_ble_eq_true rfl) h
theorem t20 (p0_t : Option Addr) (p1_n : Int) (w : World) (R : Ending → World → Prop) : den Try.prog M20 c20 (argE 0 [(Value.pointer p0_t), (Value.int IntKind.i64 p1_n)]) w (retK Try.prog Try.f20.results.toList R) =
(New w [Value.bool false, Value.bool false, Value.bool false, Value.int IntKind.u64 0] 44 fun p w' =>
  Call Try.prog 26 [Value.pointer p0_t, Value.int IntKind.i64 p1_n] w' fun e w' =>
    ∃ p_1 n,
      e = Ending.returned (Value.tuple #[Value.pointer p_1, Value.int IntKind.i64 n]) ∧
        ((n != (0 : Int)) = true →
            Wr w' p [Value.bool false, Value.bool false, Value.bool false, Value.int IntKind.u64 0] fun w' =>
              ∃ b,
                World.cell? w' (Addr.add p 0) = some (Value.bool b) ∧
                  ∃ b_1,
                    World.cell? w' (Addr.add p 1) = some (Value.bool b_1) ∧
                      ∃ b_2,
                        World.cell? w' (Addr.add p 2) = some (Value.bool b_2) ∧
                          ∃ n_1,
                            World.cell? w' (Addr.add p 3) = some (Value.int IntKind.u64 n_1) ∧
                              R
                                (Ending.returned
                                  (Value.tuple
                                    #[Value.agg
                                        #[Value.bool b, Value.bool b_1, Value.bool b_2, Value.int IntKind.u64 n_1],
                                      Value.int IntKind.i64 n]))
                                w') ∧
          ((n != (0 : Int)) = false →
            ∃ a,
              p_1 = some a ∧
                ∃ b,
                  World.cell? w' (Addr.add a 0) = some (Value.bool b) ∧
                    ∃ b_1,
                      World.cell? w' (Addr.add a 1) = some (Value.bool b_1) ∧
                        ∃ b_2,
                          World.cell? w' (Addr.add a 2) = some (Value.bool b_2) ∧
                            ∃ n,
                              World.cell? w' (Addr.add a 3) = some (Value.int IntKind.u64 n) ∧
                                Wr w' p [Value.bool b, Value.bool b_1, Value.bool b_2, Value.int IntKind.u64 n]
                                  fun w' =>
                                  ∃ b,
                                    World.cell? w' (Addr.add p 0) = some (Value.bool b) ∧
                                      ∃ b_3,
                                        World.cell? w' (Addr.add p 1) = some (Value.bool b_3) ∧
                                          ∃ b_4,
                                            World.cell? w' (Addr.add p 2) = some (Value.bool b_4) ∧
                                              ∃ n,
                                                World.cell? w' (Addr.add p 3) = some (Value.int IntKind.u64 n) ∧
                                                  R
                                                    (Ending.returned
                                                      (Value.tuple
                                                        #[Value.agg
                                                            #[Value.bool b, Value.bool b_3, Value.bool b_4,
                                                              Value.int IntKind.u64 n],
                                                          Value.int IntKind.i64 0]))
                                                    w')) := by kernel_rfl
/-! (*davit/davitref15.Table).Is -/
def M21 : Mt := { N := 16, keep := [(0, [0, 1]), (1, [4])], ords := [], bk := [], cuts := [], lk := [] }
noncomputable def c21 : Code := bodyOf Try.f21
theorem b21 : Try.f21.body = some c21 := by kernel_rfl
theorem n21 : Try.f21.ntmps = M21.N := by kernel_rfl
theorem u21 {p0_t : Option Addr} {p1_n : Int} {w : World} {R : Ending → World → Prop} (h : den Try.prog M21 c21 (argE 0 [(Value.pointer p0_t), (Value.int IntKind.i64 p1_n)]) w (retK Try.prog Try.f21.results.toList R)) : Calls Try.prog 21 #[(Value.pointer p0_t), (Value.int IntKind.i64 p1_n)] w R := calls_den okProg Try.func21 b21 n21 (Nat.le_of_ble_eq_true rfl) h
theorem t21 (p0_t : Option Addr) (p1_n : Int) (w : World) (R : Ending → World → Prop) : den Try.prog M21 c21 (argE 0 [(Value.pointer p0_t), (Value.int IntKind.i64 p1_n)]) w (retK Try.prog Try.f21.results.toList R) =
((decide (p1_n ≥ (0 : Int)) = true →
    ∃ a,
      p0_t = some a ∧
        ∃ p n c,
          World.cell? w (Addr.add a 1) = some (Value.slice p n c) ∧
            R (Ending.returned (Value.bool (decide (p1_n < (↑n : Int))))) w) ∧
  (decide (p1_n ≥ (0 : Int)) = false → R (Ending.returned (Value.bool false)) w)) := by kernel_rfl
/-! davit/davitlaw15.same -/
def M22 : Mt := { N := 31, keep := [(0, [2, 3]), (1, [4])], ords := [], bk := [], cuts := [], lk := [] }
noncomputable def c22 : Code := bodyOf Try.f22
theorem b22 : Try.f22.body = some c22 := by kernel_rfl
theorem n22 : Try.f22.ntmps = M22.N := by kernel_rfl
theorem u22 {p0_x_0 : Bool} {p0_x_1 : Bool} {p0_x_2 : Bool} {p0_x_3 : Int} {p1_y_0 : Bool} {p1_y_1 : Bool} {p1_y_2 : Bool} {p1_y_3 : Int} {w : World} {R : Ending → World → Prop} (h : den Try.prog M22 c22 (argE 0 [(Value.agg #[(Value.bool p0_x_0), (Value.bool p0_x_1), (Value.bool p0_x_2), (Value.int IntKind.u64 p0_x_3)]), (Value.agg #[(Value.bool p1_y_0), (Value.bool p1_y_1), (Value.bool p1_y_2), (Value.int IntKind.u64 p1_y_3)])]) w (retK Try.prog Try.f22.results.toList R)) : Calls Try.prog 22 #[(Value.agg #[(Value.bool p0_x_0), (Value.bool p0_x_1), (Value.bool p0_x_2), (Value.int IntKind.u64 p0_x_3)]), (Value.agg #[(Value.bool p1_y_0), (Value.bool p1_y_1), (Value.bool p1_y_2), (Value.int IntKind.u64 p1_y_3)])] w R := calls_den okProg Try.func22 b22 n22 (Nat.le_of_ble_eq_true rfl) h
theorem t22 (p0_x_0 : Bool) (p0_x_1 : Bool) (p0_x_2 : Bool) (p0_x_3 : Int) (p1_y_0 : Bool) (p1_y_1 : Bool) (p1_y_2 : Bool) (p1_y_3 : Int) (w : World) (R : Ending → World → Prop) : den Try.prog M22 c22 (argE 0 [(Value.agg #[(Value.bool p0_x_0), (Value.bool p0_x_1), (Value.bool p0_x_2), (Value.int IntKind.u64 p0_x_3)]), (Value.agg #[(Value.bool p1_y_0), (Value.bool p1_y_1), (Value.bool p1_y_2), (Value.int IntKind.u64 p1_y_3)])]) w (retK Try.prog Try.f22.results.toList R) =
(New w [Value.bool p0_x_0, Value.bool p0_x_1, Value.bool p0_x_2, Value.int IntKind.u64 p0_x_3] 44
  fun p w' =>
  New w' [Value.bool p1_y_0, Value.bool p1_y_1, Value.bool p1_y_2, Value.int IntKind.u64 p1_y_3] 49
    fun p_1 w' =>
    ∃ b,
      World.cell? w' (Addr.add p 0) = some (Value.bool b) ∧
        ∃ b_1,
          World.cell? w' (Addr.add p_1 0) = some (Value.bool b_1) ∧
            ((b == b_1) = true →
                ∃ b,
                  World.cell? w' (Addr.add p 1) = some (Value.bool b) ∧
                    ∃ b_2,
                      World.cell? w' (Addr.add p_1 1) = some (Value.bool b_2) ∧
                        ((b == b_2) = true →
                            ∃ b,
                              World.cell? w' (Addr.add p 2) = some (Value.bool b) ∧
                                ∃ b_3,
                                  World.cell? w' (Addr.add p_1 2) = some (Value.bool b_3) ∧
                                    ((b == b_3) = true →
                                        ∃ n,
                                          World.cell? w' (Addr.add p 3) = some (Value.int IntKind.u64 n) ∧
                                            ∃ n_1,
                                              World.cell? w' (Addr.add p_1 3) =
                                                  some (Value.int IntKind.u64 n_1) ∧
                                                R (Ending.returned (Value.bool (n == n_1))) w') ∧
                                      ((b == b_3) = false → R (Ending.returned (Value.bool false)) w')) ∧
                          ((b == b_2) = false → R (Ending.returned (Value.bool false)) w')) ∧
              ((b == b_1) = false → R (Ending.returned (Value.bool false)) w')) := by kernel_rfl
/-! (*davit/irq.Table).Free -/
def M23 : Mt := { N := 19, keep := [(0, [0, 1]), (1, [5, 6]), (2, [5, 6, 14]), (3, [6]), (4, [4])], ords := [], bk := [], cuts := [], lk := [] }
noncomputable def c23 : Code := bodyOf Try.f23
theorem b23 : Try.f23.body = some c23 := by kernel_rfl
theorem n23 : Try.f23.ntmps = M23.N := by kernel_rfl
theorem u23 {p0_t : Option Addr} {p1_n : Int} {w : World} {R : Ending → World → Prop} (h : den Try.prog M23 c23 (argE 0 [(Value.pointer p0_t), (Value.int IntKind.i64 p1_n)]) w (retK Try.prog Try.f23.results.toList R)) : Calls Try.prog 23 #[(Value.pointer p0_t), (Value.int IntKind.i64 p1_n)] w R := calls_den okProg Try.func23 b23 n23 (Nat.le_of_ble_eq_true rfl) h
theorem t23 (p0_t : Option Addr) (p1_n : Int) (w : World) (R : Ending → World → Prop) : den Try.prog M23 c23 (argE 0 [(Value.pointer p0_t), (Value.int IntKind.i64 p1_n)]) w (retK Try.prog Try.f23.results.toList R) =
(Call Try.prog 29 [Value.pointer p0_t, Value.int IntKind.i64 p1_n] w fun e w' =>
  ∃ p n,
    e = Ending.returned (Value.tuple #[Value.pointer p, Value.int IntKind.i64 n]) ∧
      ((n == (0 : Int)) = true →
          ∃ a,
            p = some a ∧
              Wr w' a [Value.bool false, Value.bool false, Value.bool false, Value.int IntKind.u64 0] fun w' =>
                R (Ending.returned (Value.int IntKind.i64 n)) w') ∧
        ((n == (0 : Int)) = false → R (Ending.returned (Value.int IntKind.i64 n)) w')) := by kernel_rfl
/-! (*davit/irq.Table).Aim -/
def M24 : Mt := { N := 28, keep := [(0, [0, 1, 2]), (1, [0, 2, 7, 8]), (2, [0, 2, 7, 8, 15]), (3, [6]), (4, [2, 7, 19]), (5, [6]), (6, []), (7, [6])], ords := [], bk := [(0, [2, 7])], cuts := [], lk := [] }
noncomputable def c24 : Code := bodyOf Try.f24
theorem b24 : Try.f24.body = some c24 := by kernel_rfl
theorem n24 : Try.f24.ntmps = M24.N := by kernel_rfl
theorem u24 {p0_t : Option Addr} {p1_n : Int} {p2_m : Int} {w : World} {R : Ending → World → Prop} (h : den Try.prog M24 c24 (argE 0 [(Value.pointer p0_t), (Value.int IntKind.i64 p1_n), (Value.int IntKind.u64 p2_m)]) w (retK Try.prog Try.f24.results.toList R)) : Calls Try.prog 24 #[(Value.pointer p0_t), (Value.int IntKind.i64 p1_n), (Value.int IntKind.u64 p2_m)] w R := calls_den okProg Try.func24 b24 n24 (Nat.le_of_ble_eq_true rfl) h
theorem t24 (p0_t : Option Addr) (p1_n : Int) (p2_m : Int) (w : World) (R : Ending → World → Prop) : den Try.prog M24 c24 (argE 0 [(Value.pointer p0_t), (Value.int IntKind.i64 p1_n), (Value.int IntKind.u64 p2_m)]) w (retK Try.prog Try.f24.results.toList R) =
(Call Try.prog 29 [Value.pointer p0_t, Value.int IntKind.i64 p1_n] w fun e w' =>
  ∃ p n,
    e = Ending.returned (Value.tuple #[Value.pointer p, Value.int IntKind.i64 n]) ∧
      ((n != (0 : Int)) = true → R (Ending.returned (Value.int IntKind.i64 n)) w') ∧
        ((n != (0 : Int)) = false →
          Call Try.prog 27 [Value.pointer p0_t, Value.int IntKind.u64 p2_m] w' fun e w' =>
            ∃ b,
              e = Ending.returned (Value.bool b) ∧
                ((!b) = true → R (Ending.returned (Value.int IntKind.i64 2)) w') ∧
                  ((!b) = false →
                    ∃ a,
                      p = some a ∧
                        Wr w' (Addr.add a 3) [Value.int IntKind.u64 p2_m] fun w' =>
                          R (Ending.returned (Value.int IntKind.i64 0)) w'))) := by kernel_rfl
/-! davit/mask.Upto -/
def M25 : Mt := { N := 12, keep := [(0, [0]), (1, [0, 3]), (2, [2]), (3, [0, 6]), (4, [2]), (5, [2])], ords := [], bk := [(0, [0])], cuts := [], lk := [] }
noncomputable def c25 : Code := bodyOf Try.f25
theorem b25 : Try.f25.body = some c25 := by kernel_rfl
theorem n25 : Try.f25.ntmps = M25.N := by kernel_rfl
theorem u25 {p0_n : Int} {w : World} {R : Ending → World → Prop} (h : den Try.prog M25 c25 (argE 0 [(Value.int IntKind.i64 p0_n)]) w (retK Try.prog Try.f25.results.toList R)) : Calls Try.prog 25 #[(Value.int IntKind.i64 p0_n)] w R := calls_den okProg Try.func25 b25 n25 (Nat.le_of_ble_eq_true rfl) h
theorem t25 (p0_n : Int) (w : World) (R : Ending → World → Prop) : den Try.prog M25 c25 (argE 0 [(Value.int IntKind.i64 p0_n)]) w (retK Try.prog Try.f25.results.toList R) =
((decide (p0_n ≤ (0 : Int)) = true → R (Ending.returned (Value.int IntKind.u64 0)) w) ∧
  (decide (p0_n ≤ (0 : Int)) = false →
    (decide (p0_n ≥ (64 : Int)) = true →
        R (Ending.returned (Value.int IntKind.u64 18446744073709551615)) w) ∧
      (decide (p0_n ≥ (64 : Int)) = false →
        Call Try.prog 36 [Value.int IntKind.i64 p0_n] w fun e w' =>
          ∃ n,
            e = Ending.returned (Value.int IntKind.u64 n) ∧
              R (Ending.returned (Value.int IntKind.u64 (IntKind.wrap IntKind.u64 (n - (1 : Int))))) w'))) := by kernel_rfl
/-! (*davit/irq.Table).find -/
def M26 : Mt := { N := 21, keep := [(0, [0, 1]), (1, [0, 1, 6]), (2, [4, 5]), (3, [0, 1, 9]), (4, [4, 5]), (5, [4, 5])], ords := [], bk := [(0, [0, 1])], cuts := [], lk := [] }
noncomputable def c26 : Code := bodyOf Try.f26
theorem b26 : Try.f26.body = some c26 := by kernel_rfl
theorem n26 : Try.f26.ntmps = M26.N := by kernel_rfl
theorem u26 {p0_t : Option Addr} {p1_n : Int} {w : World} {R : Ending → World → Prop} (h : den Try.prog M26 c26 (argE 0 [(Value.pointer p0_t), (Value.int IntKind.i64 p1_n)]) w (retK Try.prog Try.f26.results.toList R)) : Calls Try.prog 26 #[(Value.pointer p0_t), (Value.int IntKind.i64 p1_n)] w R := calls_den okProg Try.func26 b26 n26 (Nat.le_of_ble_eq_true rfl) h
theorem t26 (p0_t : Option Addr) (p1_n : Int) (w : World) (R : Ending → World → Prop) : den Try.prog M26 c26 (argE 0 [(Value.pointer p0_t), (Value.int IntKind.i64 p1_n)]) w (retK Try.prog Try.f26.results.toList R) =
((Option.isNone p0_t = true →
    R (Ending.returned (Value.tuple #[Value.pointer none, Value.int IntKind.i64 1])) w) ∧
  (Option.isNone p0_t = false →
    (decide (p1_n < (0 : Int)) = false →
        (decide (p1_n ≥ (16 : Int)) = true →
            R (Ending.returned (Value.tuple #[Value.pointer none, Value.int IntKind.i64 3])) w) ∧
          (decide (p1_n ≥ (16 : Int)) = false →
            ∃ a,
              p0_t = some a ∧
                ((0 : Int) ≤ p1_n ∧ p1_n < (↑16 : Int)) ∧
                  R
                    (Ending.returned
                      (Value.tuple
                        #[Value.pointer (some (Addr.add (Addr.add a 0) (Int.toNat p1_n * 4))),
                          Value.int IntKind.i64 0]))
                    w)) ∧
      (decide (p1_n < (0 : Int)) = true →
        R (Ending.returned (Value.tuple #[Value.pointer none, Value.int IntKind.i64 3])) w))) := by kernel_rfl
/-! (*davit/irq.Table).right -/
def M27 : Mt := { N := 15, keep := [(0, [0, 1]), (1, [4])], ords := [], bk := [], cuts := [], lk := [] }
noncomputable def c27 : Code := bodyOf Try.f27
theorem b27 : Try.f27.body = some c27 := by kernel_rfl
theorem n27 : Try.f27.ntmps = M27.N := by kernel_rfl
theorem u27 {p0_t : Option Addr} {p1_m : Int} {w : World} {R : Ending → World → Prop} (h : den Try.prog M27 c27 (argE 0 [(Value.pointer p0_t), (Value.int IntKind.u64 p1_m)]) w (retK Try.prog Try.f27.results.toList R)) : Calls Try.prog 27 #[(Value.pointer p0_t), (Value.int IntKind.u64 p1_m)] w R := calls_den okProg Try.func27 b27 n27 (Nat.le_of_ble_eq_true rfl) h
theorem t27 (p0_t : Option Addr) (p1_m : Int) (w : World) (R : Ending → World → Prop) : den Try.prog M27 c27 (argE 0 [(Value.pointer p0_t), (Value.int IntKind.u64 p1_m)]) w (retK Try.prog Try.f27.results.toList R) =
(((p1_m != (0 : Int)) = true →
    ∃ a,
      p0_t = some a ∧
        ∃ n,
          World.cell? w (Addr.add a 64) = some (Value.int IntKind.u64 n) ∧
            Call Try.prog 37 [Value.int IntKind.u64 p1_m, Value.int IntKind.u64 n] w fun e w' =>
              ∃ b, e = Ending.returned (Value.bool b) ∧ R (Ending.returned (Value.bool b)) w') ∧
  ((p1_m != (0 : Int)) = false → R (Ending.returned (Value.bool false)) w)) := by kernel_rfl
/-! (*davit/irq.Table).hush -/
def M28 : Mt := { N := 30, keep := [(0, [0, 1, 2]), (1, [2, 7, 8]), (2, [2, 7, 8, 15]), (3, [6]), (4, [2, 7, 19]), (5, [6]), (6, []), (7, [6])], ords := [], bk := [(0, [2, 7])], cuts := [], lk := [] }
noncomputable def c28 : Code := bodyOf Try.f28
theorem b28 : Try.f28.body = some c28 := by kernel_rfl
theorem n28 : Try.f28.ntmps = M28.N := by kernel_rfl
theorem u28 {p0_t : Option Addr} {p1_n : Int} {p2_is : Bool} {w : World} {R : Ending → World → Prop} (h : den Try.prog M28 c28 (argE 0 [(Value.pointer p0_t), (Value.int IntKind.i64 p1_n), (Value.bool p2_is)]) w (retK Try.prog Try.f28.results.toList R)) : Calls Try.prog 28 #[(Value.pointer p0_t), (Value.int IntKind.i64 p1_n), (Value.bool p2_is)] w R := calls_den okProg Try.func28 b28 n28 (Nat.le_of_ble_eq_true rfl) h
theorem t28 (p0_t : Option Addr) (p1_n : Int) (p2_is : Bool) (w : World) (R : Ending → World → Prop) : den Try.prog M28 c28 (argE 0 [(Value.pointer p0_t), (Value.int IntKind.i64 p1_n), (Value.bool p2_is)]) w (retK Try.prog Try.f28.results.toList R) =
(Call Try.prog 29 [Value.pointer p0_t, Value.int IntKind.i64 p1_n] w fun e w' =>
  ∃ p n,
    e = Ending.returned (Value.tuple #[Value.pointer p, Value.int IntKind.i64 n]) ∧
      ((n != (0 : Int)) = true → R (Ending.returned (Value.int IntKind.i64 n)) w') ∧
        ((n != (0 : Int)) = false →
          ∃ a,
            p = some a ∧
              ∃ b,
                World.cell? w' (Addr.add a 1) = some (Value.bool b) ∧
                  ((b == p2_is) = true → R (Ending.returned (Value.int IntKind.i64 6)) w') ∧
                    ((b == p2_is) = false →
                      ∃ a,
                        p = some a ∧
                          Wr w' (Addr.add a 1) [Value.bool p2_is] fun w' =>
                            R (Ending.returned (Value.int IntKind.i64 0)) w'))) := by kernel_rfl
/-! (*davit/irq.Table).wanted -/
def M29 : Mt := { N := 25, keep := [(0, [0, 1]), (1, [6, 7]), (2, [6, 7, 22]), (3, [4, 5]), (4, [4, 5])], ords := [], bk := [], cuts := [], lk := [] }
noncomputable def c29 : Code := bodyOf Try.f29
theorem b29 : Try.f29.body = some c29 := by kernel_rfl
theorem n29 : Try.f29.ntmps = M29.N := by kernel_rfl
theorem u29 {p0_t : Option Addr} {p1_n : Int} {w : World} {R : Ending → World → Prop} (h : den Try.prog M29 c29 (argE 0 [(Value.pointer p0_t), (Value.int IntKind.i64 p1_n)]) w (retK Try.prog Try.f29.results.toList R)) : Calls Try.prog 29 #[(Value.pointer p0_t), (Value.int IntKind.i64 p1_n)] w R := calls_den okProg Try.func29 b29 n29 (Nat.le_of_ble_eq_true rfl) h
theorem t29 (p0_t : Option Addr) (p1_n : Int) (w : World) (R : Ending → World → Prop) : den Try.prog M29 c29 (argE 0 [(Value.pointer p0_t), (Value.int IntKind.i64 p1_n)]) w (retK Try.prog Try.f29.results.toList R) =
(Call Try.prog 26 [Value.pointer p0_t, Value.int IntKind.i64 p1_n] w fun e w' =>
  ∃ p n,
    e = Ending.returned (Value.tuple #[Value.pointer p, Value.int IntKind.i64 n]) ∧
      ((n == (0 : Int)) = true →
          ∃ a,
            p = some a ∧
              ∃ b,
                World.cell? w' (Addr.add a 0) = some (Value.bool b) ∧
                  ((!b) = true →
                      R (Ending.returned (Value.tuple #[Value.pointer none, Value.int IntKind.i64 4])) w') ∧
                    ((!b) = false →
                      R (Ending.returned (Value.tuple #[Value.pointer p, Value.int IntKind.i64 n])) w')) ∧
        ((n == (0 : Int)) = false → R (Ending.returned (Value.tuple #[Value.pointer p, Value.int IntKind.i64 n])) w')) := by kernel_rfl
/-! (*davit/davitref15.Table).Request -/
def M30 : Mt := { N := 34, keep := [(0, [0, 1, 2]), (1, [0, 1, 2, 10]), (2, [6]), (3, [0, 1, 2, 18]), (4, [6]), (5, [0, 1, 2, 25]), (6, [6]), (7, []), (8, [6])], ords := [], bk := [], cuts := [], lk := [] }
noncomputable def c30 : Code := bodyOf Try.f30
theorem b30 : Try.f30.body = some c30 := by kernel_rfl
theorem n30 : Try.f30.ntmps = M30.N := by kernel_rfl
theorem u30 {p0_t : Option Addr} {p1_n : Int} {p2_m : Int} {w : World} {R : Ending → World → Prop} (h : den Try.prog M30 c30 (argE 0 [(Value.pointer p0_t), (Value.int IntKind.i64 p1_n), (Value.int IntKind.u64 p2_m)]) w (retK Try.prog Try.f30.results.toList R)) : Calls Try.prog 30 #[(Value.pointer p0_t), (Value.int IntKind.i64 p1_n), (Value.int IntKind.u64 p2_m)] w R := calls_den okProg Try.func30 b30 n30 (Nat.le_of_ble_eq_true rfl) h
theorem t30 (p0_t : Option Addr) (p1_n : Int) (p2_m : Int) (w : World) (R : Ending → World → Prop) : den Try.prog M30 c30 (argE 0 [(Value.pointer p0_t), (Value.int IntKind.i64 p1_n), (Value.int IntKind.u64 p2_m)]) w (retK Try.prog Try.f30.results.toList R) =
(Call Try.prog 21 [Value.pointer p0_t, Value.int IntKind.i64 p1_n] w fun e w' =>
  ∃ b,
    e = Ending.returned (Value.bool b) ∧
      ((!b) = true → R (Ending.returned (Value.int IntKind.i64 3)) w') ∧
        ((!b) = false →
          ∃ a,
            p0_t = some a ∧
              ∃ p n c,
                World.cell? w' (Addr.add a 1) = some (Value.slice p n c) ∧
                  ((0 : Int) ≤ p1_n ∧ p1_n < (↑n : Int)) ∧
                    ∃ a,
                      p = some a ∧
                        ∃ b,
                          World.cell? w' (Addr.add (Addr.add a (Int.toNat p1_n * 4)) 0) =
                              some (Value.bool b) ∧
                            (b = true → R (Ending.returned (Value.int IntKind.i64 6)) w') ∧
                              (b = false →
                                ∃ a,
                                  p0_t = some a ∧
                                    ∃ n,
                                      World.cell? w' (Addr.add a 0) = some (Value.int IntKind.i64 n) ∧
                                        Call Try.prog 38 [Value.int IntKind.i64 n, Value.int IntKind.u64 p2_m]
                                          w' fun e w' =>
                                          ∃ b,
                                            e = Ending.returned (Value.bool b) ∧
                                              ((!b) = true →
                                                  R (Ending.returned (Value.int IntKind.i64 2)) w') ∧
                                                ((!b) = false →
                                                  ∃ a,
                                                    p0_t = some a ∧
                                                      ∃ p n c,
                                                        World.cell? w' (Addr.add a 1) =
                                                            some (Value.slice p n c) ∧
                                                          ((0 : Int) ≤ p1_n ∧ p1_n < (↑n : Int)) ∧
                                                            ∃ a,
                                                              p = some a ∧
                                                                Wr w' (Addr.add a (Int.toNat p1_n * 4))
                                                                  [Value.bool true, Value.bool false, Value.bool false,
                                                                    Value.int IntKind.u64 p2_m]
                                                                  fun w' =>
                                                                  R (Ending.returned (Value.int IntKind.i64 0))
                                                                    w')))) := by kernel_rfl
/-! (*davit/davitref15.Table).Free -/
def M31 : Mt := { N := 19, keep := [(0, [0, 1]), (1, [0, 1, 5]), (2, [0, 1, 5, 10]), (3, [5]), (4, [4])], ords := [], bk := [], cuts := [], lk := [] }
noncomputable def c31 : Code := bodyOf Try.f31
theorem b31 : Try.f31.body = some c31 := by kernel_rfl
theorem n31 : Try.f31.ntmps = M31.N := by kernel_rfl
theorem u31 {p0_t : Option Addr} {p1_n : Int} {w : World} {R : Ending → World → Prop} (h : den Try.prog M31 c31 (argE 0 [(Value.pointer p0_t), (Value.int IntKind.i64 p1_n)]) w (retK Try.prog Try.f31.results.toList R)) : Calls Try.prog 31 #[(Value.pointer p0_t), (Value.int IntKind.i64 p1_n)] w R := calls_den okProg Try.func31 b31 n31 (Nat.le_of_ble_eq_true rfl) h
theorem t31 (p0_t : Option Addr) (p1_n : Int) (w : World) (R : Ending → World → Prop) : den Try.prog M31 c31 (argE 0 [(Value.pointer p0_t), (Value.int IntKind.i64 p1_n)]) w (retK Try.prog Try.f31.results.toList R) =
(Call Try.prog 39 [Value.pointer p0_t, Value.int IntKind.i64 p1_n] w fun e w' =>
  ∃ n,
    e = Ending.returned (Value.int IntKind.i64 n) ∧
      ((n == (0 : Int)) = true →
          ∃ a,
            p0_t = some a ∧
              ∃ p n_1 c,
                World.cell? w' (Addr.add a 1) = some (Value.slice p n_1 c) ∧
                  ((0 : Int) ≤ p1_n ∧ p1_n < (↑n_1 : Int)) ∧
                    ∃ a,
                      p = some a ∧
                        Wr w' (Addr.add a (Int.toNat p1_n * 4))
                          [Value.bool false, Value.bool false, Value.bool false, Value.int IntKind.u64 0]
                          fun w' => R (Ending.returned (Value.int IntKind.i64 n)) w') ∧
        ((n == (0 : Int)) = false → R (Ending.returned (Value.int IntKind.i64 n)) w')) := by kernel_rfl
/-! (*davit/davitref15.Table).Aim -/
def M32 : Mt := { N := 29, keep := [(0, [0, 1, 2]), (1, [0, 1, 2, 7]), (2, [0, 1, 2, 7, 12]), (3, [6]), (4, [0, 1, 2, 20]), (5, [6]), (6, []), (7, [6])], ords := [], bk := [], cuts := [], lk := [] }
noncomputable def c32 : Code := bodyOf Try.f32
theorem b32 : Try.f32.body = some c32 := by kernel_rfl
theorem n32 : Try.f32.ntmps = M32.N := by kernel_rfl
theorem u32 {p0_t : Option Addr} {p1_n : Int} {p2_m : Int} {w : World} {R : Ending → World → Prop} (h : den Try.prog M32 c32 (argE 0 [(Value.pointer p0_t), (Value.int IntKind.i64 p1_n), (Value.int IntKind.u64 p2_m)]) w (retK Try.prog Try.f32.results.toList R)) : Calls Try.prog 32 #[(Value.pointer p0_t), (Value.int IntKind.i64 p1_n), (Value.int IntKind.u64 p2_m)] w R := calls_den okProg Try.func32 b32 n32 (Nat.le_of_ble_eq_true rfl) h
theorem t32 (p0_t : Option Addr) (p1_n : Int) (p2_m : Int) (w : World) (R : Ending → World → Prop) : den Try.prog M32 c32 (argE 0 [(Value.pointer p0_t), (Value.int IntKind.i64 p1_n), (Value.int IntKind.u64 p2_m)]) w (retK Try.prog Try.f32.results.toList R) =
(Call Try.prog 39 [Value.pointer p0_t, Value.int IntKind.i64 p1_n] w fun e w' =>
  ∃ n,
    e = Ending.returned (Value.int IntKind.i64 n) ∧
      ((n != (0 : Int)) = true → R (Ending.returned (Value.int IntKind.i64 n)) w') ∧
        ((n != (0 : Int)) = false →
          ∃ a,
            p0_t = some a ∧
              ∃ n,
                World.cell? w' (Addr.add a 0) = some (Value.int IntKind.i64 n) ∧
                  Call Try.prog 38 [Value.int IntKind.i64 n, Value.int IntKind.u64 p2_m] w' fun e w' =>
                    ∃ b,
                      e = Ending.returned (Value.bool b) ∧
                        ((!b) = true → R (Ending.returned (Value.int IntKind.i64 2)) w') ∧
                          ((!b) = false →
                            ∃ a,
                              p0_t = some a ∧
                                ∃ p n c,
                                  World.cell? w' (Addr.add a 1) = some (Value.slice p n c) ∧
                                    ((0 : Int) ≤ p1_n ∧ p1_n < (↑n : Int)) ∧
                                      ∃ a,
                                        p = some a ∧
                                          Wr w' (Addr.add (Addr.add a (Int.toNat p1_n * 4)) 3)
                                            [Value.int IntKind.u64 p2_m] fun w' =>
                                            R (Ending.returned (Value.int IntKind.i64 0)) w'))) := by kernel_rfl
/-! (*davit/davitref15.Table).Hush -/
def M33 : Mt := { N := 32, keep := [(0, [0, 1, 2]), (1, [0, 1, 2, 7]), (2, [0, 1, 2, 7, 12]), (3, [6]), (4, [0, 1, 2, 23]), (5, [6]), (6, []), (7, [6])], ords := [], bk := [], cuts := [], lk := [] }
noncomputable def c33 : Code := bodyOf Try.f33
theorem b33 : Try.f33.body = some c33 := by kernel_rfl
theorem n33 : Try.f33.ntmps = M33.N := by kernel_rfl
theorem u33 {p0_t : Option Addr} {p1_n : Int} {p2_is : Bool} {w : World} {R : Ending → World → Prop} (h : den Try.prog M33 c33 (argE 0 [(Value.pointer p0_t), (Value.int IntKind.i64 p1_n), (Value.bool p2_is)]) w (retK Try.prog Try.f33.results.toList R)) : Calls Try.prog 33 #[(Value.pointer p0_t), (Value.int IntKind.i64 p1_n), (Value.bool p2_is)] w R := calls_den okProg Try.func33 b33 n33 (Nat.le_of_ble_eq_true rfl) h
theorem t33 (p0_t : Option Addr) (p1_n : Int) (p2_is : Bool) (w : World) (R : Ending → World → Prop) : den Try.prog M33 c33 (argE 0 [(Value.pointer p0_t), (Value.int IntKind.i64 p1_n), (Value.bool p2_is)]) w (retK Try.prog Try.f33.results.toList R) =
(Call Try.prog 39 [Value.pointer p0_t, Value.int IntKind.i64 p1_n] w fun e w' =>
  ∃ n,
    e = Ending.returned (Value.int IntKind.i64 n) ∧
      ((n != (0 : Int)) = true → R (Ending.returned (Value.int IntKind.i64 n)) w') ∧
        ((n != (0 : Int)) = false →
          ∃ a,
            p0_t = some a ∧
              ∃ p n c,
                World.cell? w' (Addr.add a 1) = some (Value.slice p n c) ∧
                  ((0 : Int) ≤ p1_n ∧ p1_n < (↑n : Int)) ∧
                    ∃ a,
                      p = some a ∧
                        ∃ b,
                          World.cell? w' (Addr.add (Addr.add a (Int.toNat p1_n * 4)) 1) =
                              some (Value.bool b) ∧
                            ((b == p2_is) = true → R (Ending.returned (Value.int IntKind.i64 6)) w') ∧
                              ((b == p2_is) = false →
                                ∃ a,
                                  p0_t = some a ∧
                                    ∃ p n c,
                                      World.cell? w' (Addr.add a 1) = some (Value.slice p n c) ∧
                                        ((0 : Int) ≤ p1_n ∧ p1_n < (↑n : Int)) ∧
                                          ∃ a,
                                            p = some a ∧
                                              Wr w' (Addr.add (Addr.add a (Int.toNat p1_n * 4)) 1)
                                                [Value.bool p2_is] fun w' =>
                                                R (Ending.returned (Value.int IntKind.i64 0)) w'))) := by kernel_rfl
/-! (*davit/davitref15.Table).Raise -/
def M34 : Mt := { N := 19, keep := [(0, [0, 1]), (1, [0, 1, 5]), (2, [0, 1, 5, 10]), (3, [5]), (4, [4])], ords := [], bk := [], cuts := [], lk := [] }
noncomputable def c34 : Code := bodyOf Try.f34
theorem b34 : Try.f34.body = some c34 := by kernel_rfl
theorem n34 : Try.f34.ntmps = M34.N := by kernel_rfl
theorem u34 {p0_t : Option Addr} {p1_n : Int} {w : World} {R : Ending → World → Prop} (h : den Try.prog M34 c34 (argE 0 [(Value.pointer p0_t), (Value.int IntKind.i64 p1_n)]) w (retK Try.prog Try.f34.results.toList R)) : Calls Try.prog 34 #[(Value.pointer p0_t), (Value.int IntKind.i64 p1_n)] w R := calls_den okProg Try.func34 b34 n34 (Nat.le_of_ble_eq_true rfl) h
theorem t34 (p0_t : Option Addr) (p1_n : Int) (w : World) (R : Ending → World → Prop) : den Try.prog M34 c34 (argE 0 [(Value.pointer p0_t), (Value.int IntKind.i64 p1_n)]) w (retK Try.prog Try.f34.results.toList R) =
(Call Try.prog 39 [Value.pointer p0_t, Value.int IntKind.i64 p1_n] w fun e w' =>
  ∃ n,
    e = Ending.returned (Value.int IntKind.i64 n) ∧
      ((n == (0 : Int)) = true →
          ∃ a,
            p0_t = some a ∧
              ∃ p n_1 c,
                World.cell? w' (Addr.add a 1) = some (Value.slice p n_1 c) ∧
                  ((0 : Int) ≤ p1_n ∧ p1_n < (↑n_1 : Int)) ∧
                    ∃ a,
                      p = some a ∧
                        Wr w' (Addr.add (Addr.add a (Int.toNat p1_n * 4)) 2) [Value.bool true]
                          fun w' => R (Ending.returned (Value.int IntKind.i64 n)) w') ∧
        ((n == (0 : Int)) = false → R (Ending.returned (Value.int IntKind.i64 n)) w')) := by kernel_rfl
/-! (*davit/davitref15.Table).Clear -/
def M35 : Mt := { N := 23, keep := [(0, [0, 1]), (1, [0, 1, 5]), (2, [0, 1, 5, 10]), (3, [4]), (4, [0, 1, 15]), (5, [4]), (6, []), (7, [4])], ords := [], bk := [], cuts := [], lk := [] }
noncomputable def c35 : Code := bodyOf Try.f35
theorem b35 : Try.f35.body = some c35 := by kernel_rfl
theorem n35 : Try.f35.ntmps = M35.N := by kernel_rfl
theorem u35 {p0_t : Option Addr} {p1_n : Int} {w : World} {R : Ending → World → Prop} (h : den Try.prog M35 c35 (argE 0 [(Value.pointer p0_t), (Value.int IntKind.i64 p1_n)]) w (retK Try.prog Try.f35.results.toList R)) : Calls Try.prog 35 #[(Value.pointer p0_t), (Value.int IntKind.i64 p1_n)] w R := calls_den okProg Try.func35 b35 n35 (Nat.le_of_ble_eq_true rfl) h
theorem t35 (p0_t : Option Addr) (p1_n : Int) (w : World) (R : Ending → World → Prop) : den Try.prog M35 c35 (argE 0 [(Value.pointer p0_t), (Value.int IntKind.i64 p1_n)]) w (retK Try.prog Try.f35.results.toList R) =
(Call Try.prog 39 [Value.pointer p0_t, Value.int IntKind.i64 p1_n] w fun e w' =>
  ∃ n,
    e = Ending.returned (Value.int IntKind.i64 n) ∧
      ((n != (0 : Int)) = true → R (Ending.returned (Value.int IntKind.i64 n)) w') ∧
        ((n != (0 : Int)) = false →
          Call Try.prog 16 [Value.pointer p0_t, Value.int IntKind.i64 p1_n] w' fun e w' =>
            ∃ b,
              e = Ending.returned (Value.bool b) ∧
                ((!b) = true → R (Ending.returned (Value.int IntKind.i64 12)) w') ∧
                  ((!b) = false →
                    ∃ a,
                      p0_t = some a ∧
                        ∃ p n c,
                          World.cell? w' (Addr.add a 1) = some (Value.slice p n c) ∧
                            ((0 : Int) ≤ p1_n ∧ p1_n < (↑n : Int)) ∧
                              ∃ a,
                                p = some a ∧
                                  Wr w' (Addr.add (Addr.add a (Int.toNat p1_n * 4)) 2)
                                    [Value.bool false] fun w' =>
                                    R (Ending.returned (Value.int IntKind.i64 0)) w'))) := by kernel_rfl
/-! davit/mask.one -/
def M36 : Mt := { N := 11, keep := [(0, [0]), (1, [0, 8]), (2, [2]), (3, [2])], ords := [], bk := [], cuts := [], lk := [] }
noncomputable def c36 : Code := bodyOf Try.f36
theorem b36 : Try.f36.body = some c36 := by kernel_rfl
theorem n36 : Try.f36.ntmps = M36.N := by kernel_rfl
theorem u36 {p0_cpu : Int} {w : World} {R : Ending → World → Prop} (h : den Try.prog M36 c36 (argE 0 [(Value.int IntKind.i64 p0_cpu)]) w (retK Try.prog Try.f36.results.toList R)) : Calls Try.prog 36 #[(Value.int IntKind.i64 p0_cpu)] w R := calls_den okProg Try.func36 b36 n36 (Nat.le_of_ble_eq_true rfl) h
theorem t36 (p0_cpu : Int) (w : World) (R : Ending → World → Prop) : den Try.prog M36 c36 (argE 0 [(Value.int IntKind.i64 p0_cpu)]) w (retK Try.prog Try.f36.results.toList R) =
((decide (p0_cpu < (0 : Int)) = false →
    (decide (p0_cpu ≥ (64 : Int)) = true → R (Ending.returned (Value.int IntKind.u64 0)) w) ∧
      (decide (p0_cpu ≥ (64 : Int)) = false →
        (0 : Int) ≤ p0_cpu ∧ R (Ending.returned (Value.int IntKind.u64 (shlOp IntKind.u64 (1 : Int) p0_cpu))) w)) ∧
  (decide (p0_cpu < (0 : Int)) = true → R (Ending.returned (Value.int IntKind.u64 0)) w)) := by kernel_rfl
/-! (davit/mask.Mask).Within -/
def M37 : Mt := { N := 9, keep := [(0, [0, 1]), (1, [4])], ords := [], bk := [], cuts := [], lk := [] }
noncomputable def c37 : Code := bodyOf Try.f37
theorem b37 : Try.f37.body = some c37 := by kernel_rfl
theorem n37 : Try.f37.ntmps = M37.N := by kernel_rfl
theorem u37 {p0_m : Int} {p1_o : Int} {w : World} {R : Ending → World → Prop} (h : den Try.prog M37 c37 (argE 0 [(Value.int IntKind.u64 p0_m), (Value.int IntKind.u64 p1_o)]) w (retK Try.prog Try.f37.results.toList R)) : Calls Try.prog 37 #[(Value.int IntKind.u64 p0_m), (Value.int IntKind.u64 p1_o)] w R := calls_den okProg Try.func37 b37 n37 (Nat.le_of_ble_eq_true rfl) h
theorem t37 (p0_m : Int) (p1_o : Int) (w : World) (R : Ending → World → Prop) : den Try.prog M37 c37 (argE 0 [(Value.int IntKind.u64 p0_m), (Value.int IntKind.u64 p1_o)]) w (retK Try.prog Try.f37.results.toList R) =
(R (Ending.returned (Value.bool (bitsOp BinOp.andNot IntKind.u64 p0_m p1_o == (0 : Int)))) w) := by kernel_rfl
/-! davit/davitref11.Right -/
def M38 : Mt := { N := 14, keep := [(0, [0, 1]), (1, [4])], ords := [], bk := [], cuts := [], lk := [] }
noncomputable def c38 : Code := bodyOf Try.f38
theorem b38 : Try.f38.body = some c38 := by kernel_rfl
theorem n38 : Try.f38.ntmps = M38.N := by kernel_rfl
theorem u38 {p0_cpus : Int} {p1_m : Int} {w : World} {R : Ending → World → Prop} (h : den Try.prog M38 c38 (argE 0 [(Value.int IntKind.i64 p0_cpus), (Value.int IntKind.u64 p1_m)]) w (retK Try.prog Try.f38.results.toList R)) : Calls Try.prog 38 #[(Value.int IntKind.i64 p0_cpus), (Value.int IntKind.u64 p1_m)] w R := calls_den okProg Try.func38 b38 n38 (Nat.le_of_ble_eq_true rfl) h
theorem t38 (p0_cpus : Int) (p1_m : Int) (w : World) (R : Ending → World → Prop) : den Try.prog M38 c38 (argE 0 [(Value.int IntKind.i64 p0_cpus), (Value.int IntKind.u64 p1_m)]) w (retK Try.prog Try.f38.results.toList R) =
(((p1_m != (0 : Int)) = true →
    Call Try.prog 41 [Value.int IntKind.i64 p0_cpus] w fun e w' =>
      ∃ n,
        e = Ending.returned (Value.int IntKind.u64 n) ∧
          Call Try.prog 40 [Value.int IntKind.u64 p1_m, Value.int IntKind.u64 n] w' fun e w' =>
            ∃ n,
              e = Ending.returned (Value.int IntKind.u64 n) ∧ R (Ending.returned (Value.bool (n == (0 : Int)))) w') ∧
  ((p1_m != (0 : Int)) = false → R (Ending.returned (Value.bool false)) w)) := by kernel_rfl
/-! (*davit/davitref15.Table).wanted -/
def M39 : Mt := { N := 18, keep := [(0, [0, 1]), (1, [0, 1, 8]), (2, [4]), (3, [17]), (4, [4]), (5, [4])], ords := [], bk := [], cuts := [], lk := [] }
noncomputable def c39 : Code := bodyOf Try.f39
theorem b39 : Try.f39.body = some c39 := by kernel_rfl
theorem n39 : Try.f39.ntmps = M39.N := by kernel_rfl
theorem u39 {p0_t : Option Addr} {p1_n : Int} {w : World} {R : Ending → World → Prop} (h : den Try.prog M39 c39 (argE 0 [(Value.pointer p0_t), (Value.int IntKind.i64 p1_n)]) w (retK Try.prog Try.f39.results.toList R)) : Calls Try.prog 39 #[(Value.pointer p0_t), (Value.int IntKind.i64 p1_n)] w R := calls_den okProg Try.func39 b39 n39 (Nat.le_of_ble_eq_true rfl) h
theorem t39 (p0_t : Option Addr) (p1_n : Int) (w : World) (R : Ending → World → Prop) : den Try.prog M39 c39 (argE 0 [(Value.pointer p0_t), (Value.int IntKind.i64 p1_n)]) w (retK Try.prog Try.f39.results.toList R) =
(Call Try.prog 21 [Value.pointer p0_t, Value.int IntKind.i64 p1_n] w fun e w' =>
  ∃ b,
    e = Ending.returned (Value.bool b) ∧
      ((!b) = true → R (Ending.returned (Value.int IntKind.i64 3)) w') ∧
        ((!b) = false →
          ∃ a,
            p0_t = some a ∧
              ∃ p n c,
                World.cell? w' (Addr.add a 1) = some (Value.slice p n c) ∧
                  ((0 : Int) ≤ p1_n ∧ p1_n < (↑n : Int)) ∧
                    ∃ a,
                      p = some a ∧
                        ∃ b,
                          World.cell? w' (Addr.add (Addr.add a (Int.toNat p1_n * 4)) 0) =
                              some (Value.bool b) ∧
                            ((!b) = true → R (Ending.returned (Value.int IntKind.i64 4)) w') ∧
                              ((!b) = false → R (Ending.returned (Value.int IntKind.i64 0)) w'))) := by kernel_rfl
/-! davit/davitref01.Not -/
def M40 : Mt := { N := 26, keep := [(0, [0, 1]), (1, [0, 1, 5]), (2, [0, 1, 5, 6]), (3, [0, 1, 5, 6, 8]), (4, [0, 1, 5, 6]), (5, [0, 1, 5, 6, 19]), (6, [0, 1, 5, 6]), (7, [4])], ords := [], bk := [(0, [5]), (1, [0, 1, 5, 6])], cuts := [(7, [5])], lk := [(3, [0, 1, 5, 6])] }
noncomputable def c40 : Code := bodyOf Try.f40
noncomputable def c40_0 : Code := c40.sr.sr.sr
noncomputable def c40_1 : Code := c40.sr.sr.sl.sr.sl.sl
def e40_0 (p5_l_a : Option Addr) (p5_l_n : Nat) (p5_l_c : Nat) : Env := [(5, SV.v (Value.slice p5_l_a p5_l_n p5_l_c))]
def e40_1 (p0_m : Int) (p1_o : Int) (p5_l_a : Option Addr) (p5_l_n : Nat) (p5_l_c : Nat) (p6_i : Int) : Env := [(0, SV.v (Value.int IntKind.u64 p0_m)), (1, SV.v (Value.int IntKind.u64 p1_o)), (5, SV.v (Value.slice p5_l_a p5_l_n p5_l_c)), (6, SV.v (Value.int IntKind.i64 p6_i))]
def k40_0 (R : Ending → World → Prop) : Cont := retK Try.prog Try.f40.results.toList R
def k40_1 (R : Ending → World → Prop) : Cont := blockK 0 [5] (seqK (fun E w => cutB (findL M40.cuts (headReg c40_0)) Try.prog M40 c40_0 E w (retK Try.prog Try.f40.results.toList R) fun E => den Try.prog M40 c40_0 E w (retK Try.prog Try.f40.results.toList R)) (retK Try.prog Try.f40.results.toList R))
theorem b40 : Try.f40.body = some c40 := by kernel_rfl
theorem n40 : Try.f40.ntmps = M40.N := by kernel_rfl
theorem u40 {p0_m : Int} {p1_o : Int} {w : World} {R : Ending → World → Prop} (h : den Try.prog M40 c40 (argE 0 [(Value.int IntKind.u64 p0_m), (Value.int IntKind.u64 p1_o)]) w (retK Try.prog Try.f40.results.toList R)) : Calls Try.prog 40 #[(Value.int IntKind.u64 p0_m), (Value.int IntKind.u64 p1_o)] w R := calls_den okProg Try.func40 b40 n40 (Nat.le_of_ble_eq_true rfl) h
theorem t40 (p0_m : Int) (p1_o : Int) (w : World) (R : Ending → World → Prop) : den Try.prog M40 c40 (argE 0 [(Value.int IntKind.u64 p0_m), (Value.int IntKind.u64 p1_o)]) w (retK Try.prog Try.f40.results.toList R) =
(Cut (WP Try.prog 26 (Code.loop c40_1) (e40_1 p0_m p1_o none 0 0 (0 : Int)) w (k40_1 R))) := by kernel_rfl
theorem t40_0 (p5_l_a : Option Addr) (p5_l_n : Nat) (p5_l_c : Nat) (w : World) (R : Ending → World → Prop) : den Try.prog M40 c40_0 (e40_0 p5_l_a p5_l_n p5_l_c) w (k40_0 R) =
(Call Try.prog 43 [Value.slice p5_l_a p5_l_n p5_l_c] w fun e w' =>
  ∃ n, e = Ending.returned (Value.int IntKind.u64 n) ∧ R (Ending.returned (Value.int IntKind.u64 n)) w') := by kernel_rfl
theorem t40_1 (p0_m : Int) (p1_o : Int) (p5_l_a : Option Addr) (p5_l_n : Nat) (p5_l_c : Nat) (p6_i : Int) (w : World) (B40_1 : Env → World → Prop) (R : Ending → World → Prop) : den Try.prog M40 c40_1 (e40_1 p0_m p1_o p5_l_a p5_l_n p5_l_c p6_i) w (loopK B40_1 (k40_1 R)) =
((decide (p6_i < (64 : Int)) = true →
    Call Try.prog 42 [Value.int IntKind.u64 p0_m, Value.int IntKind.i64 p6_i] w fun e w' =>
      ∃ b,
        e = Ending.returned (Value.bool b) ∧
          (b = true →
              Call Try.prog 42 [Value.int IntKind.u64 p1_o, Value.int IntKind.i64 p6_i] w' fun e w' =>
                ∃ b,
                  e = Ending.returned (Value.bool b) ∧
                    ((!b) = true →
                        New w' [Value.int IntKind.i64 p6_i] 3 fun p w' =>
                          ∃ p_1 n c w'_1,
                            Sem.run Try.prog
                                  (Builtin.append_ #[41, 41] 41
                                    #[Value.slice p5_l_a p5_l_n p5_l_c, Value.slice (some p) 1 1])
                                  w' =
                                Result.ok (Value.slice p_1 n c) w'_1 ∧
                              B40_1
                                [(0, SV.v (Value.int IntKind.u64 p0_m)),
                                  (1, SV.v (Value.int IntKind.u64 p1_o)),
                                  (5, SV.v (Value.slice p_1 n c)),
                                  (6,
                                    SV.v (Value.int IntKind.i64 (IntKind.wrap IntKind.i64 (p6_i + (1 : Int)))))]
                                w'_1) ∧
                      ((!b) = false →
                        B40_1
                          [(0, SV.v (Value.int IntKind.u64 p0_m)),
                            (1, SV.v (Value.int IntKind.u64 p1_o)),
                            (5, SV.v (Value.slice p5_l_a p5_l_n p5_l_c)),
                            (6, SV.v (Value.int IntKind.i64 (IntKind.wrap IntKind.i64 (p6_i + (1 : Int)))))]
                          w')) ∧
            (b = false →
              B40_1
                [(0, SV.v (Value.int IntKind.u64 p0_m)), (1, SV.v (Value.int IntKind.u64 p1_o)),
                  (5, SV.v (Value.slice p5_l_a p5_l_n p5_l_c)),
                  (6, SV.v (Value.int IntKind.i64 (IntKind.wrap IntKind.i64 (p6_i + (1 : Int)))))]
                w')) ∧
  (decide (p6_i < (64 : Int)) = false → CutD Try.prog M40 c40_0 (e40_0 p5_l_a p5_l_n p5_l_c) w (k40_0 R))) := by kernel_rfl
/-! davit/davitref01.Upto -/
def M41 : Mt := { N := 18, keep := [(0, [0]), (1, [0, 3]), (2, [0, 3, 4]), (3, [0, 3, 4, 11]), (4, [0, 3, 4]), (5, [0, 3, 4]), (6, [2])], ords := [], bk := [(0, [3]), (1, [0, 3, 4])], cuts := [], lk := [(3, [0, 3, 4])] }
noncomputable def c41 : Code := bodyOf Try.f41
noncomputable def c41_0 : Code := c41.sr.sr.sr
noncomputable def c41_1 : Code := c41.sr.sr.sl.sr.sl.sl
def e41_1 (p0_n : Int) (p3_m : Int) (p4_i : Int) : Env := [(0, SV.v (Value.int IntKind.i64 p0_n)), (3, SV.v (Value.int IntKind.u64 p3_m)), (4, SV.v (Value.int IntKind.i64 p4_i))]
def k41_1 (R : Ending → World → Prop) : Cont := blockK 0 [3] (seqK (fun E w => cutB (findL M41.cuts (headReg c41_0)) Try.prog M41 c41_0 E w (retK Try.prog Try.f41.results.toList R) fun E => den Try.prog M41 c41_0 E w (retK Try.prog Try.f41.results.toList R)) (retK Try.prog Try.f41.results.toList R))
theorem b41 : Try.f41.body = some c41 := by kernel_rfl
theorem n41 : Try.f41.ntmps = M41.N := by kernel_rfl
theorem u41 {p0_n : Int} {w : World} {R : Ending → World → Prop} (h : den Try.prog M41 c41 (argE 0 [(Value.int IntKind.i64 p0_n)]) w (retK Try.prog Try.f41.results.toList R)) : Calls Try.prog 41 #[(Value.int IntKind.i64 p0_n)] w R := calls_den okProg Try.func41 b41 n41 (Nat.le_of_ble_eq_true rfl) h
theorem t41 (p0_n : Int) (w : World) (R : Ending → World → Prop) : den Try.prog M41 c41 (argE 0 [(Value.int IntKind.i64 p0_n)]) w (retK Try.prog Try.f41.results.toList R) =
(Cut (WP Try.prog 18 (Code.loop c41_1) (e41_1 p0_n (0 : Int) (0 : Int)) w (k41_1 R))) := by kernel_rfl
theorem t41_1 (p0_n : Int) (p3_m : Int) (p4_i : Int) (w : World) (B41_1 : Env → World → Prop) (R : Ending → World → Prop) : den Try.prog M41 c41_1 (e41_1 p0_n p3_m p4_i) w (loopK B41_1 (k41_1 R)) =
((decide (p4_i < p0_n) = true →
    (decide (p4_i < (64 : Int)) = true →
        Call Try.prog 44 [Value.int IntKind.u64 p3_m, Value.int IntKind.i64 p4_i] w fun e w' =>
          ∃ n,
            e = Ending.returned (Value.int IntKind.u64 n) ∧
              B41_1
                [(0, SV.v (Value.int IntKind.i64 p0_n)), (3, SV.v (Value.int IntKind.u64 n)),
                  (4, SV.v (Value.int IntKind.i64 (IntKind.wrap IntKind.i64 (p4_i + (1 : Int)))))]
                w') ∧
      (decide (p4_i < (64 : Int)) = false → R (Ending.returned (Value.int IntKind.u64 p3_m)) w)) ∧
  (decide (p4_i < p0_n) = false → R (Ending.returned (Value.int IntKind.u64 p3_m)) w)) := by kernel_rfl
/-! davit/davitref01.Has -/
def M42 : Mt := { N := 17, keep := [(0, [0, 1]), (1, [0, 1, 10]), (2, [4]), (3, [4])], ords := [], bk := [], cuts := [], lk := [] }
noncomputable def c42 : Code := bodyOf Try.f42
theorem b42 : Try.f42.body = some c42 := by kernel_rfl
theorem n42 : Try.f42.ntmps = M42.N := by kernel_rfl
theorem u42 {p0_m : Int} {p1_cpu : Int} {w : World} {R : Ending → World → Prop} (h : den Try.prog M42 c42 (argE 0 [(Value.int IntKind.u64 p0_m), (Value.int IntKind.i64 p1_cpu)]) w (retK Try.prog Try.f42.results.toList R)) : Calls Try.prog 42 #[(Value.int IntKind.u64 p0_m), (Value.int IntKind.i64 p1_cpu)] w R := calls_den okProg Try.func42 b42 n42 (Nat.le_of_ble_eq_true rfl) h
theorem t42 (p0_m : Int) (p1_cpu : Int) (w : World) (R : Ending → World → Prop) : den Try.prog M42 c42 (argE 0 [(Value.int IntKind.u64 p0_m), (Value.int IntKind.i64 p1_cpu)]) w (retK Try.prog Try.f42.results.toList R) =
((decide (p1_cpu < (0 : Int)) = false →
    (decide (p1_cpu > (63 : Int)) = true → R (Ending.returned (Value.bool false)) w) ∧
      (decide (p1_cpu > (63 : Int)) = false →
        (0 : Int) ≤ IntKind.wrap IntKind.u64 p1_cpu ∧
          (2 : Int) ≠ (0 : Int) ∧
            R
              (Ending.returned
                (Value.bool
                  (Int.tmod (shrOp IntKind.u64 p0_m (IntKind.wrap IntKind.u64 p1_cpu)) (2 : Int) == (1 : Int))))
              w)) ∧
  (decide (p1_cpu < (0 : Int)) = true → R (Ending.returned (Value.bool false)) w)) := by kernel_rfl
/-! davit/davitref01.Of -/
def M43 : Mt := { N := 18, keep := [(0, [0]), (1, [0, 3]), (2, [0, 3, 4]), (3, [0, 3, 4, 8]), (4, [0, 3, 4]), (5, [0, 3, 4]), (6, [2])], ords := [], bk := [(0, [3]), (1, [0, 3, 4])], cuts := [], lk := [(3, [0, 3, 4])] }
noncomputable def c43 : Code := bodyOf Try.f43
noncomputable def c43_0 : Code := c43.sr.sr.sr
noncomputable def c43_1 : Code := c43.sr.sr.sl.sr.sl.sl
def e43_1 (p0_l_a : Option Addr) (p0_l_n : Nat) (p0_l_c : Nat) (p3_m : Int) (p4_i : Int) : Env := [(0, SV.v (Value.slice p0_l_a p0_l_n p0_l_c)), (3, SV.v (Value.int IntKind.u64 p3_m)), (4, SV.v (Value.int IntKind.i64 p4_i))]
def k43_1 (R : Ending → World → Prop) : Cont := blockK 0 [3] (seqK (fun E w => cutB (findL M43.cuts (headReg c43_0)) Try.prog M43 c43_0 E w (retK Try.prog Try.f43.results.toList R) fun E => den Try.prog M43 c43_0 E w (retK Try.prog Try.f43.results.toList R)) (retK Try.prog Try.f43.results.toList R))
theorem b43 : Try.f43.body = some c43 := by kernel_rfl
theorem n43 : Try.f43.ntmps = M43.N := by kernel_rfl
theorem u43 {p0_l_a : Option Addr} {p0_l_n : Nat} {p0_l_c : Nat} {w : World} {R : Ending → World → Prop} (h : den Try.prog M43 c43 (argE 0 [(Value.slice p0_l_a p0_l_n p0_l_c)]) w (retK Try.prog Try.f43.results.toList R)) : Calls Try.prog 43 #[(Value.slice p0_l_a p0_l_n p0_l_c)] w R := calls_den okProg Try.func43 b43 n43 (Nat.le_of_ble_eq_true rfl) h
theorem t43 (p0_l_a : Option Addr) (p0_l_n : Nat) (p0_l_c : Nat) (w : World) (R : Ending → World → Prop) : den Try.prog M43 c43 (argE 0 [(Value.slice p0_l_a p0_l_n p0_l_c)]) w (retK Try.prog Try.f43.results.toList R) =
(Cut (WP Try.prog 18 (Code.loop c43_1) (e43_1 p0_l_a p0_l_n p0_l_c (0 : Int) (0 : Int)) w (k43_1 R))) := by kernel_rfl
theorem t43_1 (p0_l_a : Option Addr) (p0_l_n : Nat) (p0_l_c : Nat) (p3_m : Int) (p4_i : Int) (w : World) (B43_1 : Env → World → Prop) (R : Ending → World → Prop) : den Try.prog M43 c43_1 (e43_1 p0_l_a p0_l_n p0_l_c p3_m p4_i) w (loopK B43_1 (k43_1 R)) =
((decide (p4_i < (↑p0_l_n : Int)) = true →
    ((0 : Int) ≤ p4_i ∧ p4_i < (↑p0_l_n : Int)) ∧
      ∃ a,
        p0_l_a = some a ∧
          ∃ n,
            World.cell? w (Addr.add a (Int.toNat p4_i * 1)) = some (Value.int IntKind.i64 n) ∧
              Call Try.prog 44 [Value.int IntKind.u64 p3_m, Value.int IntKind.i64 n] w fun e w' =>
                ∃ n,
                  e = Ending.returned (Value.int IntKind.u64 n) ∧
                    B43_1
                      [(0, SV.v (Value.slice p0_l_a p0_l_n p0_l_c)),
                        (3, SV.v (Value.int IntKind.u64 n)),
                        (4, SV.v (Value.int IntKind.i64 (IntKind.wrap IntKind.i64 (p4_i + (1 : Int)))))]
                      w') ∧
  (decide (p4_i < (↑p0_l_n : Int)) = false → R (Ending.returned (Value.int IntKind.u64 p3_m)) w)) := by kernel_rfl
/-! davit/davitref01.With -/
def M44 : Mt := { N := 22, keep := [(0, [0, 1]), (1, [0, 1, 15]), (2, [4]), (3, [4])], ords := [], bk := [], cuts := [], lk := [] }
noncomputable def c44 : Code := bodyOf Try.f44
theorem b44 : Try.f44.body = some c44 := by kernel_rfl
theorem n44 : Try.f44.ntmps = M44.N := by kernel_rfl
theorem u44 {p0_m : Int} {p1_cpu : Int} {w : World} {R : Ending → World → Prop} (h : den Try.prog M44 c44 (argE 0 [(Value.int IntKind.u64 p0_m), (Value.int IntKind.i64 p1_cpu)]) w (retK Try.prog Try.f44.results.toList R)) : Calls Try.prog 44 #[(Value.int IntKind.u64 p0_m), (Value.int IntKind.i64 p1_cpu)] w R := calls_den okProg Try.func44 b44 n44 (Nat.le_of_ble_eq_true rfl) h
theorem t44 (p0_m : Int) (p1_cpu : Int) (w : World) (R : Ending → World → Prop) : den Try.prog M44 c44 (argE 0 [(Value.int IntKind.u64 p0_m), (Value.int IntKind.i64 p1_cpu)]) w (retK Try.prog Try.f44.results.toList R) =
((decide (p1_cpu < (0 : Int)) = false →
    (decide (p1_cpu > (63 : Int)) = false →
        Call Try.prog 42 [Value.int IntKind.u64 p0_m, Value.int IntKind.i64 p1_cpu] w fun e w' =>
          ∃ b,
            e = Ending.returned (Value.bool b) ∧
              (b = true → R (Ending.returned (Value.int IntKind.u64 p0_m)) w') ∧
                (b = false →
                  (0 : Int) ≤ IntKind.wrap IntKind.u64 p1_cpu ∧
                    R
                      (Ending.returned
                        (Value.int IntKind.u64
                          (IntKind.wrap IntKind.u64
                            (p0_m + shlOp IntKind.u64 (1 : Int) (IntKind.wrap IntKind.u64 p1_cpu)))))
                      w')) ∧
      (decide (p1_cpu > (63 : Int)) = true → R (Ending.returned (Value.int IntKind.u64 p0_m)) w)) ∧
  (decide (p1_cpu < (0 : Int)) = true → R (Ending.returned (Value.int IntKind.u64 p0_m)) w)) := by kernel_rfl
end Go.Dav
