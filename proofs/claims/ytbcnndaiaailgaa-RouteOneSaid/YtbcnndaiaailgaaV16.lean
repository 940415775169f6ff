/- What functions of the program come to. -/
import Derived.Test.YtbcnndaiaailgaaPrg16
namespace Go.Dav
open Go.Proofs
/-! davit/davitlaw16.RoutePlays -/
def M3 : Mt := { N := 118, keep := [(0, [0, 1]), (1, [0, 1, 5, 6]), (2, [1, 5, 6, 7, 8]), (3, [1, 5, 7, 34]), (4, [4]), (5, [1, 5, 7, 36]), (6, [4]), (7, [1, 5, 7, 9]), (8, [1, 5, 7, 9, 45]), (9, [1, 5, 7, 9]), (10, [1, 5, 7, 9, 10]), (11, [1, 5, 7, 9, 10, 53]), (12, [1, 5, 7, 9, 10, 62]), (13, [4]), (14, [1, 5, 7, 9, 10, 75]), (15, [4]), (16, [1, 5, 7, 9, 10, 11, 12]), (17, [1, 5, 7, 9, 10, 11, 12, 13, 14]), (18, [1, 5, 7, 9, 116]), (19, [4]), (20, [4])], ords := [(12, [0, 1, 2, 4, 5, 6, 3, 7, 8]), (14, [0, 1, 2, 3, 4, 6, 7, 8, 9, 10, 5, 11, 12]), (18, [0, 1, 2, 3, 4, 5, 6, 7, 8, 9, 10, 11, 13, 14, 15, 12, 16, 17, 18, 19, 20, 21, 23, 22, 24, 25, 26])], bk := [(0, []), (1, [1, 5, 7, 9])], cuts := [(16, [1, 5, 7, 9, 10]), (20, [])], lk := [(8, [1, 5, 7, 9])] }
noncomputable def c3 : Code := bodyOf Try.f3
noncomputable def c3_0 : Code := c3.sr.sr.sr.sr.sr.sr
noncomputable def c3_1 : Code := c3.sr.sr.sr.sr.sr.sl.sr.sl.sl
noncomputable def c3_2 : Code := c3.sr.sr.sr.sr.sr.sl.sr.sl.sl.sr.sr
noncomputable def c3_3 : Code := c3.sr.sr.sr.sr.sr.sl.sr.sl.sl.sr.sl.sl.sr.sr
def e3_0  : Env := []
def e3_1 (p1_acts_a : Option Addr) (p1_acts_n : Nat) (p1_acts_c : Nat) (p5_x : Option Addr) (p7_r : Option Addr) (p9_i : Int) : Env := [(1, SV.v (Value.slice p1_acts_a p1_acts_n p1_acts_c)), (5, SV.v (Value.pointer p5_x)), (7, SV.v (Value.pointer p7_r)), (9, SV.v (Value.int IntKind.i64 p9_i))]
def e3_3 (p1_acts_a : Option Addr) (p1_acts_n : Nat) (p1_acts_c : Nat) (p5_x : Option Addr) (p7_r : Option Addr) (p9_i : Int) (p10_a : Addr) : Env := [(1, SV.v (Value.slice p1_acts_a p1_acts_n p1_acts_c)), (5, SV.v (Value.pointer p5_x)), (7, SV.v (Value.pointer p7_r)), (9, SV.v (Value.int IntKind.i64 p9_i)), (10, SV.v (Value.pointer (some p10_a)))]
def k3_0 (R : Ending → World → Prop) : Cont := retK Try.prog Try.f3.results.toList R
def k3_1 (R : Ending → World → Prop) : Cont := blockK 0 [] (seqK (fun E w => cutB (findL M3.cuts (headReg c3_0)) Try.prog M3 c3_0 E w (retK Try.prog Try.f3.results.toList R) fun E => den Try.prog M3 c3_0 E w (retK Try.prog Try.f3.results.toList R)) (retK Try.prog Try.f3.results.toList R))
def k3_3 (B3_1 : Env → World → Prop) (R : Ending → World → Prop) : Cont := blockK 1 [1, 5, 7, 9] (seqK (fun E w => cutB (findL M3.cuts (headReg c3_2)) Try.prog M3 c3_2 E w (loopK B3_1 (blockK 0 [] (seqK (fun E w => cutB (findL M3.cuts (headReg c3_0)) Try.prog M3 c3_0 E w (retK Try.prog Try.f3.results.toList R) fun E => den Try.prog M3 c3_0 E w (retK Try.prog Try.f3.results.toList R)) (retK Try.prog Try.f3.results.toList R)))) fun E => den Try.prog M3 c3_2 E w (loopK B3_1 (blockK 0 [] (seqK (fun E w => cutB (findL M3.cuts (headReg c3_0)) Try.prog M3 c3_0 E w (retK Try.prog Try.f3.results.toList R) fun E => den Try.prog M3 c3_0 E w (retK Try.prog Try.f3.results.toList R)) (retK Try.prog Try.f3.results.toList R))))) (loopK B3_1 (blockK 0 [] (seqK (fun E w => cutB (findL M3.cuts (headReg c3_0)) Try.prog M3 c3_0 E w (retK Try.prog Try.f3.results.toList R) fun E => den Try.prog M3 c3_0 E w (retK Try.prog Try.f3.results.toList R)) (retK Try.prog Try.f3.results.toList R)))))
theorem b3 : Try.f3.body = some c3 := by kernel_rfl
theorem n3 : Try.f3.ntmps = M3.N := by kernel_rfl
theorem u3 {p0_cpus : Int} {p1_acts_a : Option Addr} {p1_acts_n : Nat} {p1_acts_c : Nat} {w : World} {R : Ending → World → Prop} (h : den Try.prog M3 c3 (argE 0 [(Value.int IntKind.i64 p0_cpus), (Value.slice p1_acts_a p1_acts_n p1_acts_c)]) w (retK Try.prog Try.f3.results.toList R)) : Calls Try.prog 3 #[(Value.int IntKind.i64 p0_cpus), (Value.slice p1_acts_a p1_acts_n p1_acts_c)] w R := calls_den okProg Try.func3 b3 n3 (Nat.le_of_ble_eq_true rfl) h
theorem t3 (p0_cpus : Int) (p1_acts_a : Option Addr) (p1_acts_n : Nat) (p1_acts_c : Nat) (w : World) (R : Ending → World → Prop) : den Try.prog M3 c3 (argE 0 [(Value.int IntKind.i64 p0_cpus), (Value.slice p1_acts_a p1_acts_n p1_acts_c)]) w (retK Try.prog Try.f3.results.toList R) =
(Call Try.prog 6 [Value.int IntKind.i64 p0_cpus] w fun e w' =>
  ∃ p n,
    e = Ending.returned (Value.tuple #[Value.pointer p, Value.int IntKind.i64 n]) ∧
      Call Try.prog 7 [Value.int IntKind.i64 p0_cpus] w' fun e w' =>
        ∃ p_1 n_1,
          e = Ending.returned (Value.tuple #[Value.pointer p_1, Value.int IntKind.i64 n_1]) ∧
            ((n != n_1) = false →
                ((!Option.isNone p == Option.isNone p_1) = true → R (Ending.returned (Value.bool false)) w') ∧
                  ((!Option.isNone p == Option.isNone p_1) = false →
                    (Option.isNone p_1 = true →
                        Call Try.prog 8 [] w' fun e w' =>
                          ∃ b, e = Ending.returned (Value.bool b) ∧ R (Ending.returned (Value.bool b)) w') ∧
                      (Option.isNone p_1 = false →
                        Cut
                          (WP Try.prog 118 (Code.loop c3_1)
                            (e3_1 p1_acts_a p1_acts_n p1_acts_c p p_1 (0 : Int)) w' (k3_1 R))))) ∧
              ((n != n_1) = true → R (Ending.returned (Value.bool false)) w')) := by kernel_rfl
theorem t3_0  (w : World) (R : Ending → World → Prop) : den Try.prog M3 c3_0 (e3_0 ) w (k3_0 R) =
(Call Try.prog 8 [] w fun e w' =>
  ∃ b, e = Ending.returned (Value.bool b) ∧ R (Ending.returned (Value.bool b)) w') := by kernel_rfl
theorem t3_1 (p1_acts_a : Option Addr) (p1_acts_n : Nat) (p1_acts_c : Nat) (p5_x : Option Addr) (p7_r : Option Addr) (p9_i : Int) (w : World) (B3_1 : Env → World → Prop) (R : Ending → World → Prop) : den Try.prog M3 c3_1 (e3_1 p1_acts_a p1_acts_n p1_acts_c p5_x p7_r p9_i) w (loopK B3_1 (k3_1 R)) =
((decide (p9_i < (↑p1_acts_n : Int)) = true →
    (decide (p9_i < (150 : Int)) = true →
        ((0 : Int) ≤ p9_i ∧ p9_i < (↑p1_acts_n : Int)) ∧
          ∃ a,
            p1_acts_a = some a ∧
              ∃ n,
                World.cell? w (Addr.add (Addr.add a (Int.toNat p9_i * 3)) 0) =
                    some (Value.int IntKind.i64 n) ∧
                  ∃ n_1,
                    World.cell? w (Addr.add (Addr.add a (Int.toNat p9_i * 3)) 1) =
                        some (Value.int IntKind.i64 n_1) ∧
                      ∃ b,
                        World.cell? w (Addr.add (Addr.add a (Int.toNat p9_i * 3)) 2) =
                            some (Value.bool b) ∧
                          New w [Value.int IntKind.i64 0, Value.int IntKind.i64 0, Value.bool false]
                            32 fun p w' =>
                            Wr w' p [Value.int IntKind.i64 n, Value.int IntKind.i64 n_1, Value.bool b] fun w' =>
                              ∃ b,
                                World.cell? w' (Addr.add p 2) = some (Value.bool b) ∧
                                  (b = true →
                                      ∀ (w'_1 : World),
                                        World.heap w'_1 = World.heap w' →
                                          World.os w'_1 = World.os w' →
                                            World.tape w'_1 = World.tape w' →
                                              World.output w'_1 = World.output w' →
                                                ∃ n,
                                                  World.cell? w'_1 (Addr.add p 0) =
                                                      some (Value.int IntKind.i64 n) ∧
                                                    ∃ n_2,
                                                      World.cell? w'_1 (Addr.add p 0) =
                                                          some (Value.int IntKind.i64 n_2) ∧
                                                        Call Try.prog 9
                                                          [Value.pointer p5_x, Value.int IntKind.i64 n] w'_1
                                                          fun e w' =>
                                                          ∃ n,
                                                            e = Ending.returned (Value.int IntKind.i64 n) ∧
                                                              World.cell? w' (Addr.add p 0) =
                                                                  some (Value.int IntKind.i64 n_2) ∧
                                                                Call Try.prog 10
                                                                  [Value.pointer p7_r, Value.int IntKind.i64 n_2] w'
                                                                  fun e w' =>
                                                                  ∃ n_3,
                                                                    e = Ending.returned (Value.int IntKind.i64 n_3) ∧
                                                                      ((n != n_3) = true →
                                                                          R (Ending.returned (Value.bool false)) w') ∧
                                                                        ((n != n_3) = false →
                                                                          CutD Try.prog M3 c3_3
                                                                            (e3_3 p1_acts_a p1_acts_n p1_acts_c p5_x
                                                                              p7_r p9_i p)
                                                                            w' (k3_3 B3_1 R))) ∧
                                    (b = false →
                                      ∀ (w'_1 : World),
                                        World.heap w'_1 = World.heap w' →
                                          World.os w'_1 = World.os w' →
                                            World.tape w'_1 = World.tape w' →
                                              World.output w'_1 = World.output w' →
                                                ∃ n,
                                                  World.cell? w'_1 (Addr.add p 0) =
                                                      some (Value.int IntKind.i64 n) ∧
                                                    ∃ n_2,
                                                      World.cell? w'_1 (Addr.add p 1) =
                                                          some (Value.int IntKind.i64 n_2) ∧
                                                        ∃ n_3,
                                                          World.cell? w'_1 (Addr.add p 0) =
                                                              some (Value.int IntKind.i64 n_3) ∧
                                                            ∃ n_4,
                                                              World.cell? w'_1 (Addr.add p 1) =
                                                                  some (Value.int IntKind.i64 n_4) ∧
                                                                Call Try.prog 11
                                                                  [Value.pointer p5_x, Value.int IntKind.i64 n,
                                                                    Value.int IntKind.i64 n_2]
                                                                  w'_1 fun e w' =>
                                                                  ∃ n,
                                                                    e = Ending.returned (Value.int IntKind.i64 n) ∧
                                                                      World.cell? w' (Addr.add p 1) =
                                                                          some (Value.int IntKind.i64 n_4) ∧
                                                                        World.cell? w' (Addr.add p 0) =
                                                                            some (Value.int IntKind.i64 n_3) ∧
                                                                          Call Try.prog 12
                                                                            [Value.pointer p7_r,
                                                                              Value.int IntKind.i64 n_3,
                                                                              Value.int IntKind.i64 n_4]
                                                                            w' fun e w' =>
                                                                            ∃ n_5,
                                                                              e =
                                                                                  Ending.returned
                                                                                    (Value.int IntKind.i64 n_5) ∧
                                                                                ((n != n_5) = true →
                                                                                    R
                                                                                      (Ending.returned
                                                                                        (Value.bool false))
                                                                                      w') ∧
                                                                                  ((n != n_5) = false →
                                                                                    CutD Try.prog M3 c3_3
                                                                                      (e3_3 p1_acts_a p1_acts_n
                                                                                        p1_acts_c p5_x p7_r p9_i p)
                                                                                      w' (k3_3 B3_1 R)))) ∧
      (decide (p9_i < (150 : Int)) = false → CutD Try.prog M3 c3_0 e3_0 w (k3_0 R))) ∧
  (decide (p9_i < (↑p1_acts_n : Int)) = false → CutD Try.prog M3 c3_0 e3_0 w (k3_0 R))) := by kernel_rfl
theorem t3_3 (p1_acts_a : Option Addr) (p1_acts_n : Nat) (p1_acts_c : Nat) (p5_x : Option Addr) (p7_r : Option Addr) (p9_i : Int) (p10_a : Addr) (w : World) (B3_1 : Env → World → Prop) (R : Ending → World → Prop) : den Try.prog M3 c3_3 (e3_3 p1_acts_a p1_acts_n p1_acts_c p5_x p7_r p9_i p10_a) w (k3_3 B3_1 R) =
(∃ n,
  World.cell? w (Addr.add p10_a 0) = some (Value.int IntKind.i64 n) ∧
    Call Try.prog 13 [Value.pointer p5_x, Value.int IntKind.i64 n] w fun e w' =>
      ∃ n b,
        e = Ending.returned (Value.tuple #[Value.int IntKind.i64 n, Value.bool b]) ∧
          ∃ n_1,
            World.cell? w' (Addr.add p10_a 0) = some (Value.int IntKind.i64 n_1) ∧
              Call Try.prog 14 [Value.pointer p7_r, Value.int IntKind.i64 n_1] w' fun e w' =>
                ∃ n_2 b_1,
                  e = Ending.returned (Value.tuple #[Value.int IntKind.i64 n_2, Value.bool b_1]) ∧
                    ∀ (w'_1 : World),
                      World.heap w'_1 = World.heap w' →
                        World.os w'_1 = World.os w' →
                          World.tape w'_1 = World.tape w' →
                            World.output w'_1 = World.output w' →
                              ((n != n_2) = false →
                                  ((!b == b_1) = false →
                                      ∃ n,
                                        World.cell? w'_1 (Addr.add p10_a 1) = some (Value.int IntKind.i64 n) ∧
                                          ∃ n_3,
                                            World.cell? w'_1 (Addr.add p10_a 1) =
                                                some (Value.int IntKind.i64 n_3) ∧
                                              Call Try.prog 16 [Value.pointer p5_x, Value.int IntKind.i64 n]
                                                w'_1 fun e w' =>
                                                ∃ p n c,
                                                  e = Ending.returned (Value.slice p n c) ∧
                                                    World.cell? w' (Addr.add p10_a 1) =
                                                        some (Value.int IntKind.i64 n_3) ∧
                                                      Call Try.prog 17
                                                        [Value.pointer p7_r, Value.int IntKind.i64 n_3] w' fun e w' =>
                                                        ∃ p_1 n_4 c_1,
                                                          e = Ending.returned (Value.slice p_1 n_4 c_1) ∧
                                                            Call Try.prog 15
                                                              [Value.slice p n c, Value.slice p_1 n_4 c_1] w'
                                                              fun e w' =>
                                                              ∃ b,
                                                                e = Ending.returned (Value.bool b) ∧
                                                                  ((!b) = false →
                                                                      Call Try.prog 18 [Value.pointer p5_x] w'
                                                                        fun e w' =>
                                                                        ∃ n,
                                                                          e =
                                                                              Ending.returned
                                                                                (Value.int IntKind.u64 n) ∧
                                                                            Call Try.prog 19
                                                                              [Value.pointer p7_r] w' fun e w' =>
                                                                              ∃ n_5,
                                                                                e =
                                                                                    Ending.returned
                                                                                      (Value.int IntKind.u64 n_5) ∧
                                                                                  ((n != n_5) = true →
                                                                                      R
                                                                                        (Ending.returned
                                                                                          (Value.bool false))
                                                                                        w') ∧
                                                                                    ((n != n_5) = false →
                                                                                      B3_1
                                                                                        [(1,
                                                                                            SV.v
                                                                                              (Value.slice p1_acts_a
                                                                                                p1_acts_n p1_acts_c)),
                                                                                          (5,
                                                                                            SV.v (Value.pointer p5_x)),
                                                                                          (7,
                                                                                            SV.v (Value.pointer p7_r)),
                                                                                          (9,
                                                                                            SV.v
                                                                                              (Value.int IntKind.i64
                                                                                                (IntKind.wrap
                                                                                                  IntKind.i64
                                                                                                  (p9_i +
                                                                                                    (1 : Int)))))]
                                                                                        w')) ∧
                                                                    ((!b) = true →
                                                                      R (Ending.returned (Value.bool false)) w')) ∧
                                    ((!b == b_1) = true → R (Ending.returned (Value.bool false)) w'_1)) ∧
                                ((n != n_2) = true → R (Ending.returned (Value.bool false)) w'_1)) := by kernel_rfl
/-! davit/davitlaw16.RouteNil -/
def M4 : Mt := { N := 44, keep := [(0, [0, 1]), (1, [0, 1, 5]), (2, [0, 1, 5, 7]), (3, [4])], ords := [], bk := [], cuts := [], lk := [] }
noncomputable def c4 : Code := bodyOf Try.f4
theorem b4 : Try.f4.body = some c4 := by kernel_rfl
theorem n4 : Try.f4.ntmps = M4.N := by kernel_rfl
theorem u4 {p0_n : Int} {p1_cpu : Int} {w : World} {R : Ending → World → Prop} (h : den Try.prog M4 c4 (argE 0 [(Value.int IntKind.i64 p0_n), (Value.int IntKind.i64 p1_cpu)]) w (retK Try.prog Try.f4.results.toList R)) : Calls Try.prog 4 #[(Value.int IntKind.i64 p0_n), (Value.int IntKind.i64 p1_cpu)] w R := calls_den okProg Try.func4 b4 n4 (Nat.le_of_ble_eq_true rfl) h
theorem t4 (p0_n : Int) (p1_cpu : Int) (w : World) (R : Ending → World → Prop) : den Try.prog M4 c4 (argE 0 [(Value.int IntKind.i64 p0_n), (Value.int IntKind.i64 p1_cpu)]) w (retK Try.prog Try.f4.results.toList R) =
(Call Try.prog 13 [Value.pointer none, Value.int IntKind.i64 p0_n] w fun e w' =>
  ∃ n b,
    e = Ending.returned (Value.tuple #[Value.int IntKind.i64 n, Value.bool b]) ∧
      Call Try.prog 11 [Value.pointer none, Value.int IntKind.i64 p0_n, Value.int IntKind.i64 p1_cpu] w'
        fun e w' =>
        ∃ n,
          e = Ending.returned (Value.int IntKind.i64 n) ∧
            ((n == (1 : Int)) = true →
                Call Try.prog 9 [Value.pointer none, Value.int IntKind.i64 p0_n] w' fun e w' =>
                  ∃ n,
                    e = Ending.returned (Value.int IntKind.i64 n) ∧
                      ((n == (1 : Int)) = true →
                          ((!b) = true →
                              Call Try.prog 16 [Value.pointer none, Value.int IntKind.i64 p1_cpu] w'
                                fun e w' =>
                                ∃ p n c,
                                  e = Ending.returned (Value.slice p n c) ∧
                                    (((↑n : Int) == (0 : Int)) = true →
                                        Call Try.prog 18 [Value.pointer none] w' fun e w' =>
                                          ∃ n,
                                            e = Ending.returned (Value.int IntKind.u64 n) ∧
                                              ((n == (0 : Int)) = true →
                                                  Call Try.prog 8 [] w' fun e w' =>
                                                    ∃ b,
                                                      e = Ending.returned (Value.bool b) ∧
                                                        R (Ending.returned (Value.bool b)) w') ∧
                                                ((n == (0 : Int)) = false →
                                                  R (Ending.returned (Value.bool false)) w')) ∧
                                      (((↑n : Int) == (0 : Int)) = false →
                                        R (Ending.returned (Value.bool false)) w')) ∧
                            ((!b) = false → R (Ending.returned (Value.bool false)) w')) ∧
                        ((n == (1 : Int)) = false → R (Ending.returned (Value.bool false)) w')) ∧
              ((n == (1 : Int)) = false → R (Ending.returned (Value.bool false)) w')) := by kernel_rfl
/-! davit/davitlaw16.RouteOne -/
def M5 : Mt := { N := 135, keep := [(0, [0, 1]), (1, [0, 1, 5, 6]), (2, [0, 1, 5, 20]), (3, [4]), (4, [0, 1, 5, 7]), (5, [0, 1, 5, 7, 37]), (6, [0, 1, 5, 7]), (7, [0, 1, 5, 7, 44]), (8, [0, 1, 5, 7]), (9, [0, 1, 5, 7]), (10, [0, 5, 8]), (11, [0, 5, 8, 9]), (12, [0, 5, 8, 9, 67]), (13, [0, 5, 8, 9]), (14, [0, 5, 8, 9, 10]), (15, [0, 5, 8, 9, 10, 80]), (16, [4]), (17, [0, 5, 8, 9, 10, 11]), (18, [0, 5, 8, 9, 10, 11, 84]), (19, [0, 5, 8, 9, 10, 11]), (20, [0, 5, 8, 9, 10, 11, 12, 13]), (21, [0, 5, 8, 9, 10, 11, 127]), (22, [4]), (23, [0, 5, 8, 9, 10, 11]), (24, [4])], ords := [(9, [0, 1, 2, 3, 4, 5, 6, 7, 8, 9, 10, 11])], bk := [(0, [0, 5]), (1, [0, 1, 5, 7]), (2, []), (3, [0, 5, 8, 9]), (4, [0, 5, 8, 9]), (5, [0, 5, 8, 9, 10, 11])], cuts := [(10, [0, 5]), (24, [])], lk := [(5, [0, 1, 5, 7]), (12, [0, 5, 8, 9]), (18, [0, 5, 8, 9, 10, 11])] }
noncomputable def c5 : Code := bodyOf Try.f5
noncomputable def c5_0 : Code := c5.sr.sr.sr.sr
noncomputable def c5_1 : Code := c5.sr.sr.sr.sr.sr.sr
noncomputable def c5_2 : Code := c5.sr.sr.sr.sl.sr.sl.sl
noncomputable def c5_3 : Code := c5.sr.sr.sr.sr.sr.sl.sr.sl.sl
noncomputable def c5_4 : Code := c5.sr.sr.sr.sr.sr.sl.sr.sl.sl.sr.sr
noncomputable def c5_5 : Code := c5.sr.sr.sr.sr.sr.sl.sr.sl.sl.sr.sl.sl.sr.sr.sr.sl.sl
def e5_0 (p0_cpus : Int) (p5_x : Option Addr) : Env := [(0, SV.v (Value.int IntKind.i64 p0_cpus)), (5, SV.v (Value.pointer p5_x))]
def e5_2 (p0_cpus : Int) (p1_acts_a : Option Addr) (p1_acts_n : Nat) (p1_acts_c : Nat) (p5_x : Option Addr) (p7_i : Int) : Env := [(0, SV.v (Value.int IntKind.i64 p0_cpus)), (1, SV.v (Value.slice p1_acts_a p1_acts_n p1_acts_c)), (5, SV.v (Value.pointer p5_x)), (7, SV.v (Value.int IntKind.i64 p7_i))]
def e5_1  : Env := []
def e5_3 (p0_cpus : Int) (p5_x : Option Addr) (p8_seen_a : Option Addr) (p8_seen_n : Nat) (p8_seen_c : Nat) (p9_c : Int) : Env := [(0, SV.v (Value.int IntKind.i64 p0_cpus)), (5, SV.v (Value.pointer p5_x)), (8, SV.v (Value.slice p8_seen_a p8_seen_n p8_seen_c)), (9, SV.v (Value.int IntKind.i64 p9_c))]
def e5_5 (p0_cpus : Int) (p5_x : Option Addr) (p8_seen_a : Option Addr) (p8_seen_n : Nat) (p8_seen_c : Nat) (p9_c : Int) (p10_l_a : Option Addr) (p10_l_n : Nat) (p10_l_c : Nat) (p11_i : Int) : Env := [(0, SV.v (Value.int IntKind.i64 p0_cpus)), (5, SV.v (Value.pointer p5_x)), (8, SV.v (Value.slice p8_seen_a p8_seen_n p8_seen_c)), (9, SV.v (Value.int IntKind.i64 p9_c)), (10, SV.v (Value.slice p10_l_a p10_l_n p10_l_c)), (11, SV.v (Value.int IntKind.i64 p11_i))]
def k5_0 (R : Ending → World → Prop) : Cont := retK Try.prog Try.f5.results.toList R
def k5_2 (R : Ending → World → Prop) : Cont := blockK 0 [0, 5] (seqK (fun E w => cutB (findL M5.cuts (headReg c5_0)) Try.prog M5 c5_0 E w (retK Try.prog Try.f5.results.toList R) fun E => den Try.prog M5 c5_0 E w (retK Try.prog Try.f5.results.toList R)) (retK Try.prog Try.f5.results.toList R))
def k5_1 (R : Ending → World → Prop) : Cont := retK Try.prog Try.f5.results.toList R
def k5_3 (R : Ending → World → Prop) : Cont := blockK 2 [] (seqK (fun E w => cutB (findL M5.cuts (headReg c5_1)) Try.prog M5 c5_1 E w (retK Try.prog Try.f5.results.toList R) fun E => den Try.prog M5 c5_1 E w (retK Try.prog Try.f5.results.toList R)) (retK Try.prog Try.f5.results.toList R))
def k5_5 (B5_3 : Env → World → Prop) (R : Ending → World → Prop) : Cont := blockK 4 [0, 5, 8, 9] (blockK 3 [0, 5, 8, 9] (seqK (fun E w => cutB (findL M5.cuts (headReg c5_4)) Try.prog M5 c5_4 E w (loopK B5_3 (blockK 2 [] (seqK (fun E w => cutB (findL M5.cuts (headReg c5_1)) Try.prog M5 c5_1 E w (retK Try.prog Try.f5.results.toList R) fun E => den Try.prog M5 c5_1 E w (retK Try.prog Try.f5.results.toList R)) (retK Try.prog Try.f5.results.toList R)))) fun E => den Try.prog M5 c5_4 E w (loopK B5_3 (blockK 2 [] (seqK (fun E w => cutB (findL M5.cuts (headReg c5_1)) Try.prog M5 c5_1 E w (retK Try.prog Try.f5.results.toList R) fun E => den Try.prog M5 c5_1 E w (retK Try.prog Try.f5.results.toList R)) (retK Try.prog Try.f5.results.toList R))))) (loopK B5_3 (blockK 2 [] (seqK (fun E w => cutB (findL M5.cuts (headReg c5_1)) Try.prog M5 c5_1 E w (retK Try.prog Try.f5.results.toList R) fun E => den Try.prog M5 c5_1 E w (retK Try.prog Try.f5.results.toList R)) (retK Try.prog Try.f5.results.toList R))))))
theorem b5 : Try.f5.body = some c5 := by kernel_rfl
theorem n5 : Try.f5.ntmps = M5.N := by kernel_rfl
theorem u5 {p0_cpus : Int} {p1_acts_a : Option Addr} {p1_acts_n : Nat} {p1_acts_c : Nat} {w : World} {R : Ending → World → Prop} (h : den Try.prog M5 c5 (argE 0 [(Value.int IntKind.i64 p0_cpus), (Value.slice p1_acts_a p1_acts_n p1_acts_c)]) w (retK Try.prog Try.f5.results.toList R)) : Calls Try.prog 5 #[(Value.int IntKind.i64 p0_cpus), (Value.slice p1_acts_a p1_acts_n p1_acts_c)] w R := calls_den okProg Try.func5 b5 n5 (Nat.le_of_ble_eq_true rfl) h
theorem t5 (p0_cpus : Int) (p1_acts_a : Option Addr) (p1_acts_n : Nat) (p1_acts_c : Nat) (w : World) (R : Ending → World → Prop) : den Try.prog M5 c5 (argE 0 [(Value.int IntKind.i64 p0_cpus), (Value.slice p1_acts_a p1_acts_n p1_acts_c)]) w (retK Try.prog Try.f5.results.toList R) =
(Call Try.prog 6 [Value.int IntKind.i64 p0_cpus] w fun e w' =>
  ∃ p n,
    e = Ending.returned (Value.tuple #[Value.pointer p, Value.int IntKind.i64 n]) ∧
      ((n != (0 : Int)) = true →
          (decide (p0_cpus < (1 : Int)) = false →
              (decide (p0_cpus > (64 : Int)) = true →
                  Call Try.prog 8 [] w' fun e w' =>
                    ∃ b, e = Ending.returned (Value.bool b) ∧ R (Ending.returned (Value.bool b)) w') ∧
                (decide (p0_cpus > (64 : Int)) = false → R (Ending.returned (Value.bool false)) w')) ∧
            (decide (p0_cpus < (1 : Int)) = true →
              Call Try.prog 8 [] w' fun e w' =>
                ∃ b, e = Ending.returned (Value.bool b) ∧ R (Ending.returned (Value.bool b)) w')) ∧
        ((n != (0 : Int)) = false →
          Cut
            (WP Try.prog 135 (Code.loop c5_2) (e5_2 p0_cpus p1_acts_a p1_acts_n p1_acts_c p (0 : Int)) w'
              (k5_2 R)))) := by kernel_rfl
theorem t5_0 (p0_cpus : Int) (p5_x : Option Addr) (w : World) (R : Ending → World → Prop) : den Try.prog M5 c5_0 (e5_0 p0_cpus p5_x) w (k5_0 R) =
(∃ p n c w',
  Sem.run Try.prog (Instr.makeSlice 46 (Value.int IntKind.i64 16) (Value.int IntKind.i64 16))
        w =
      Result.ok (Value.slice p n c) w' ∧
    Cut (WP Try.prog 135 (Code.loop c5_3) (e5_3 p0_cpus p5_x p n c (0 : Int)) w' (k5_3 R))) := by kernel_rfl
theorem t5_2 (p0_cpus : Int) (p1_acts_a : Option Addr) (p1_acts_n : Nat) (p1_acts_c : Nat) (p5_x : Option Addr) (p7_i : Int) (w : World) (B5_2 : Env → World → Prop) (R : Ending → World → Prop) : den Try.prog M5 c5_2 (e5_2 p0_cpus p1_acts_a p1_acts_n p1_acts_c p5_x p7_i) w (loopK B5_2 (k5_2 R)) =
((decide (p7_i < (↑p1_acts_n : Int)) = true →
    (decide (p7_i < (150 : Int)) = true →
        ((0 : Int) ≤ p7_i ∧ p7_i < (↑p1_acts_n : Int)) ∧
          ∃ a,
            p1_acts_a = some a ∧
              ∃ b,
                World.cell? w (Addr.add (Addr.add a (Int.toNat p7_i * 3)) 2) = some (Value.bool b) ∧
                  (b = true →
                      ((0 : Int) ≤ p7_i ∧ p7_i < (↑p1_acts_n : Int)) ∧
                        ∃ a,
                          p1_acts_a = some a ∧
                            ∃ n,
                              World.cell? w (Addr.add (Addr.add a (Int.toNat p7_i * 3)) 0) =
                                  some (Value.int IntKind.i64 n) ∧
                                Call Try.prog 9 [Value.pointer p5_x, Value.int IntKind.i64 n] w fun e w' =>
                                  ∃ n,
                                    e = Ending.returned (Value.int IntKind.i64 n) ∧
                                      B5_2
                                        [(0, SV.v (Value.int IntKind.i64 p0_cpus)),
                                          (1, SV.v (Value.slice p1_acts_a p1_acts_n p1_acts_c)),
                                          (5, SV.v (Value.pointer p5_x)),
                                          (7,
                                            SV.v
                                              (Value.int IntKind.i64 (IntKind.wrap IntKind.i64 (p7_i + (1 : Int)))))]
                                        w') ∧
                    (b = false →
                      ∀ (w' : World),
                        World.heap w' = World.heap w →
                          World.os w' = World.os w →
                            World.tape w' = World.tape w →
                              World.output w' = World.output w →
                                ((0 : Int) ≤ p7_i ∧ p7_i < (↑p1_acts_n : Int)) ∧
                                  ∃ a,
                                    p1_acts_a = some a ∧
                                      ∃ n,
                                        World.cell? w' (Addr.add (Addr.add a (Int.toNat p7_i * 3)) 0) =
                                            some (Value.int IntKind.i64 n) ∧
                                          ((0 : Int) ≤ p7_i ∧ p7_i < (↑p1_acts_n : Int)) ∧
                                            ∃ a,
                                              p1_acts_a = some a ∧
                                                ∃ n_1,
                                                  World.cell? w'
                                                        (Addr.add (Addr.add a (Int.toNat p7_i * 3))
                                                          1) =
                                                      some (Value.int IntKind.i64 n_1) ∧
                                                    Call Try.prog 11
                                                      [Value.pointer p5_x, Value.int IntKind.i64 n,
                                                        Value.int IntKind.i64 n_1]
                                                      w' fun e w' =>
                                                      ∃ n,
                                                        e = Ending.returned (Value.int IntKind.i64 n) ∧
                                                          B5_2
                                                            [(0, SV.v (Value.int IntKind.i64 p0_cpus)),
                                                              (1,
                                                                SV.v (Value.slice p1_acts_a p1_acts_n p1_acts_c)),
                                                              (5, SV.v (Value.pointer p5_x)),
                                                              (7,
                                                                SV.v
                                                                  (Value.int IntKind.i64
                                                                    (IntKind.wrap IntKind.i64 (p7_i + (1 : Int)))))]
                                                            w')) ∧
      (decide (p7_i < (150 : Int)) = false → CutD Try.prog M5 c5_0 (e5_0 p0_cpus p5_x) w (k5_0 R))) ∧
  (decide (p7_i < (↑p1_acts_n : Int)) = false → CutD Try.prog M5 c5_0 (e5_0 p0_cpus p5_x) w (k5_0 R))) := by kernel_rfl
theorem t5_1  (w : World) (R : Ending → World → Prop) : den Try.prog M5 c5_1 (e5_1 ) w (k5_1 R) =
(Call Try.prog 8 [] w fun e w' =>
  ∃ b, e = Ending.returned (Value.bool b) ∧ R (Ending.returned (Value.bool b)) w') := by kernel_rfl
theorem t5_3 (p0_cpus : Int) (p5_x : Option Addr) (p8_seen_a : Option Addr) (p8_seen_n : Nat) (p8_seen_c : Nat) (p9_c : Int) (w : World) (B5_3 : Env → World → Prop) (R : Ending → World → Prop) : den Try.prog M5 c5_3 (e5_3 p0_cpus p5_x p8_seen_a p8_seen_n p8_seen_c p9_c) w (loopK B5_3 (k5_3 R)) =
((decide (p9_c < p0_cpus) = true →
    Call Try.prog 16 [Value.pointer p5_x, Value.int IntKind.i64 p9_c] w fun e w' =>
      ∃ p n c,
        e = Ending.returned (Value.slice p n c) ∧
          Call Try.prog 18 [Value.pointer p5_x] w' fun e w' =>
            ∃ n_1,
              e = Ending.returned (Value.int IntKind.u64 n_1) ∧
                Call Try.prog 20 [Value.int IntKind.u64 n_1, Value.int IntKind.i64 p9_c] w' fun e w' =>
                  ∃ b,
                    e = Ending.returned (Value.bool b) ∧
                      ((!decide ((↑n : Int) > (0 : Int)) == b) = true → R (Ending.returned (Value.bool false)) w') ∧
                        ((!decide ((↑n : Int) > (0 : Int)) == b) = false →
                          Cut
                            (WP Try.prog 135 (Code.loop c5_5)
                              (e5_5 p0_cpus p5_x p8_seen_a p8_seen_n p8_seen_c p9_c p n c (0 : Int)) w'
                              (k5_5 B5_3 R)))) ∧
  (decide (p9_c < p0_cpus) = false → CutD Try.prog M5 c5_1 e5_1 w (k5_1 R))) := by kernel_rfl
theorem t5_5 (p0_cpus : Int) (p5_x : Option Addr) (p8_seen_a : Option Addr) (p8_seen_n : Nat) (p8_seen_c : Nat) (p9_c : Int) (p10_l_a : Option Addr) (p10_l_n : Nat) (p10_l_c : Nat) (p11_i : Int) (w : World) (B5_3 : Env → World → Prop) (B5_5 : Env → World → Prop) (R : Ending → World → Prop) : den Try.prog M5 c5_5 (e5_5 p0_cpus p5_x p8_seen_a p8_seen_n p8_seen_c p9_c p10_l_a p10_l_n p10_l_c p11_i) w (loopK B5_5 (k5_5 B5_3 R)) =
((decide (p11_i < (↑p10_l_n : Int)) = true →
    ((0 : Int) ≤ p11_i ∧ p11_i < (↑p10_l_n : Int)) ∧
      ∃ a,
        p10_l_a = some a ∧
          ∃ n,
            World.cell? w (Addr.add a (Int.toNat p11_i * 1)) = some (Value.int IntKind.i64 n) ∧
              Call Try.prog 13 [Value.pointer p5_x, Value.int IntKind.i64 n] w fun e w' =>
                ∃ n b,
                  e = Ending.returned (Value.tuple #[Value.int IntKind.i64 n, Value.bool b]) ∧
                    ((0 : Int) ≤ p11_i ∧ p11_i < (↑p10_l_n : Int)) ∧
                      ∃ a,
                        p10_l_a = some a ∧
                          ∃ n_1,
                            World.cell? w' (Addr.add a (Int.toNat p11_i * 1)) =
                                some (Value.int IntKind.i64 n_1) ∧
                              (decide (n_1 < (0 : Int)) = false →
                                  ((0 : Int) ≤ p11_i ∧ p11_i < (↑p10_l_n : Int)) ∧
                                    ∃ a,
                                      p10_l_a = some a ∧
                                        ∃ n_2,
                                          World.cell? w' (Addr.add a (Int.toNat p11_i * 1)) =
                                              some (Value.int IntKind.i64 n_2) ∧
                                            (decide (n_2 ≥ (↑p8_seen_n : Int)) = false →
                                                ((0 : Int) ≤ p11_i ∧ p11_i < (↑p10_l_n : Int)) ∧
                                                  ∃ a,
                                                    p10_l_a = some a ∧
                                                      ∃ n_3,
                                                        World.cell? w' (Addr.add a (Int.toNat p11_i * 1)) =
                                                            some (Value.int IntKind.i64 n_3) ∧
                                                          ((0 : Int) ≤ n_3 ∧ n_3 < (↑p8_seen_n : Int)) ∧
                                                            ∃ a,
                                                              p8_seen_a = some a ∧
                                                                ∃ b_1,
                                                                  World.cell? w'
                                                                        (Addr.add a (Int.toNat n_3 * 1)) =
                                                                      some (Value.bool b_1) ∧
                                                                    (b_1 = false →
                                                                        ((!b) = false →
                                                                            ((n != p9_c) = true →
                                                                                R (Ending.returned (Value.bool false))
                                                                                  w') ∧
                                                                              ((n != p9_c) = false →
                                                                                ((0 : Int) ≤ p11_i ∧
                                                                                    p11_i < (↑p10_l_n : Int)) ∧
                                                                                  ∃ a,
                                                                                    p10_l_a = some a ∧
                                                                                      ∃ n,
                                                                                        World.cell? w'
                                                                                              (Addr.add a
                                                                                                (Int.toNat p11_i *
                                                                                                  1)) =
                                                                                            some
                                                                                              (Value.int IntKind.i64
                                                                                                n) ∧
                                                                                          ((0 : Int) ≤ n ∧
                                                                                              n < (↑p8_seen_n : Int)) ∧
                                                                                            ∃ a,
                                                                                              p8_seen_a = some a ∧
                                                                                                Wr w'
                                                                                                  (Addr.add a
                                                                                                    (Int.toNat n *
                                                                                                      1))
                                                                                                  [Value.bool true]
                                                                                                  fun w' =>
                                                                                                  B5_5
                                                                                                    [(0,
                                                                                                        SV.v
                                                                                                          (Value.int
                                                                                                            IntKind.i64
                                                                                                            p0_cpus)),
                                                                                                      (5,
                                                                                                        SV.v
                                                                                                          (Value.pointer
                                                                                                            p5_x)),
                                                                                                      (8,
                                                                                                        SV.v
                                                                                                          (Value.slice
                                                                                                            p8_seen_a
                                                                                                            p8_seen_n
                                                                                                            p8_seen_c)),
                                                                                                      (9,
                                                                                                        SV.v
                                                                                                          (Value.int
                                                                                                            IntKind.i64
                                                                                                            p9_c)),
                                                                                                      (10,
                                                                                                        SV.v
                                                                                                          (Value.slice
                                                                                                            p10_l_a
                                                                                                            p10_l_n
                                                                                                            p10_l_c)),
                                                                                                      (11,
                                                                                                        SV.v
                                                                                                          (Value.int
                                                                                                            IntKind.i64
                                                                                                            (IntKind.wrap
                                                                                                              IntKind.i64
                                                                                                              (p11_i +
                                                                                                                (1 :
                                                                                                                  Int)))))]
                                                                                                    w')) ∧
                                                                          ((!b) = true →
                                                                            R (Ending.returned (Value.bool false))
                                                                              w')) ∧
                                                                      (b_1 = true →
                                                                        R (Ending.returned (Value.bool false)) w')) ∧
                                              (decide (n_2 ≥ (↑p8_seen_n : Int)) = true →
                                                R (Ending.returned (Value.bool false)) w')) ∧
                                (decide (n_1 < (0 : Int)) = true → R (Ending.returned (Value.bool false)) w')) ∧
  (decide (p11_i < (↑p10_l_n : Int)) = false →
    B5_3
      [(0, SV.v (Value.int IntKind.i64 p0_cpus)), (5, SV.v (Value.pointer p5_x)),
        (8, SV.v (Value.slice p8_seen_a p8_seen_n p8_seen_c)),
        (9, SV.v (Value.int IntKind.i64 (IntKind.wrap IntKind.i64 (p9_c + (1 : Int)))))]
      w)) := by kernel_rfl
/-! davit/route.New -/
def M6 : Mt := { N := 13, keep := [(0, [0]), (1, [0, 9]), (2, [2, 3]), (3, [2, 3])], ords := [], bk := [], cuts := [], lk := [] }
noncomputable def c6 : Code := bodyOf Try.f6
theorem b6 : Try.f6.body = some c6 := by kernel_rfl
theorem n6 : Try.f6.ntmps = M6.N := by kernel_rfl
theorem u6 {p0_cpus : Int} {w : World} {R : Ending → World → Prop} (h : den Try.prog M6 c6 (argE 0 [(Value.int IntKind.i64 p0_cpus)]) w (retK Try.prog Try.f6.results.toList R)) : Calls Try.prog 6 #[(Value.int IntKind.i64 p0_cpus)] w R := calls_den okProg Try.func6 b6 n6 (Nat.le_of_ble_eq_true rfl) h
theorem t6 (p0_cpus : Int) (w : World) (R : Ending → World → Prop) : den Try.prog M6 c6 (argE 0 [(Value.int IntKind.i64 p0_cpus)]) w (retK Try.prog Try.f6.results.toList R) =
((decide (p0_cpus < (1 : Int)) = false →
    (decide (p0_cpus > (64 : Int)) = true →
        R (Ending.returned (Value.tuple #[Value.pointer none, Value.int IntKind.i64 2])) w) ∧
      (decide (p0_cpus > (64 : Int)) = false →
        New w
          [Value.int IntKind.i64 0, Value.int IntKind.i64 0, Value.int IntKind.i64 0,
            Value.int IntKind.i64 0, Value.int IntKind.i64 0, Value.int IntKind.i64 0,
            Value.int IntKind.i64 0, Value.int IntKind.i64 0, Value.int IntKind.i64 0,
            Value.int IntKind.i64 0, Value.int IntKind.i64 0, Value.int IntKind.i64 0,
            Value.int IntKind.i64 0, Value.int IntKind.i64 0, Value.int IntKind.i64 0,
            Value.int IntKind.i64 0, Value.int IntKind.i64 p0_cpus]
          50 fun p w' =>
          R (Ending.returned (Value.tuple #[Value.pointer (some p), Value.int IntKind.i64 0])) w')) ∧
  (decide (p0_cpus < (1 : Int)) = true →
    R (Ending.returned (Value.tuple #[Value.pointer none, Value.int IntKind.i64 2])) w)) := by kernel_rfl
/-! davit/davitref16.New -/
def M7 : Mt := { N := 29, keep := [(0, [0]), (1, [0, 11]), (2, [2, 3]), (3, [4]), (4, [4, 5]), (5, [4, 5, 16]), (6, [4, 5]), (7, [4, 5]), (8, [2, 3])], ords := [], bk := [(0, [4]), (1, [4, 5])], cuts := [], lk := [(5, [4, 5])] }
noncomputable def c7 : Code := bodyOf Try.f7
noncomputable def c7_0 : Code := c7.sr.sr.sr.sr
noncomputable def c7_1 : Code := c7.sr.sr.sr.sl.sr.sl.sl
def e7_1 (p4_r : Option Addr) (p5_i : Int) : Env := [(4, SV.v (Value.pointer p4_r)), (5, SV.v (Value.int IntKind.i64 p5_i))]
def k7_1 (R : Ending → World → Prop) : Cont := blockK 0 [4] (seqK (fun E w => cutB (findL M7.cuts (headReg c7_0)) Try.prog M7 c7_0 E w (retK Try.prog Try.f7.results.toList R) fun E => den Try.prog M7 c7_0 E w (retK Try.prog Try.f7.results.toList R)) (retK Try.prog Try.f7.results.toList R))
theorem b7 : Try.f7.body = some c7 := by kernel_rfl
theorem n7 : Try.f7.ntmps = M7.N := by kernel_rfl
theorem u7 {p0_cpus : Int} {w : World} {R : Ending → World → Prop} (h : den Try.prog M7 c7 (argE 0 [(Value.int IntKind.i64 p0_cpus)]) w (retK Try.prog Try.f7.results.toList R)) : Calls Try.prog 7 #[(Value.int IntKind.i64 p0_cpus)] w R := calls_den okProg Try.func7 b7 n7 (Nat.le_of_ble_eq_true rfl) h
theorem t7 (p0_cpus : Int) (w : World) (R : Ending → World → Prop) : den Try.prog M7 c7 (argE 0 [(Value.int IntKind.i64 p0_cpus)]) w (retK Try.prog Try.f7.results.toList R) =
((decide (p0_cpus < (1 : Int)) = false →
    (decide (p0_cpus > (64 : Int)) = true →
        R (Ending.returned (Value.tuple #[Value.pointer none, Value.int IntKind.i64 2])) w) ∧
      (decide (p0_cpus > (64 : Int)) = false →
        New w [Value.int IntKind.i64 p0_cpus, Value.slice none 0 0] 52 fun p w' =>
          Cut (WP Try.prog 29 (Code.loop c7_1) (e7_1 (some p) (0 : Int)) w' (k7_1 R)))) ∧
  (decide (p0_cpus < (1 : Int)) = true →
    R (Ending.returned (Value.tuple #[Value.pointer none, Value.int IntKind.i64 2])) w)) := by kernel_rfl
theorem t7_1 (p4_r : Option Addr) (p5_i : Int) (w : World) (B7_1 : Env → World → Prop) (R : Ending → World → Prop) : den Try.prog M7 c7_1 (e7_1 p4_r p5_i) w (loopK B7_1 (k7_1 R)) =
((decide (p5_i < (16 : Int)) = true →
    ∃ a,
      p4_r = some a ∧
        ∃ p n c,
          World.cell? w (Addr.add a 1) = some (Value.slice p n c) ∧
            New w [Value.int IntKind.i64 (-1 : Int)] 3 fun p_1 w' =>
              ∃ p_2 n_1 c_1 w'_1,
                Sem.run Try.prog
                      (Builtin.append_ #[38, 38] 38
                        #[Value.slice p n c, Value.slice (some p_1) 1 1])
                      w' =
                    Result.ok (Value.slice p_2 n_1 c_1) w'_1 ∧
                  ∃ a,
                    p4_r = some a ∧
                      Wr w'_1 (Addr.add a 1) [Value.slice p_2 n_1 c_1] fun w' =>
                        B7_1
                          [(4, SV.v (Value.pointer p4_r)),
                            (5, SV.v (Value.int IntKind.i64 (IntKind.wrap IntKind.i64 (p5_i + (1 : Int)))))]
                          w') ∧
  (decide (p5_i < (16 : Int)) = false →
    R (Ending.returned (Value.tuple #[Value.pointer p4_r, Value.int IntKind.i64 0])) w)) := by kernel_rfl
/-! davit/davitlaw16.known -/
def M8 : Mt := { N := 47, keep := [(0, []), (1, [1, 2]), (2, [1, 15]), (3, [0]), (4, [1]), (5, [1]), (6, [1, 3]), (7, [1, 3, 4, 5]), (8, [0])], ords := [], bk := [], cuts := [], lk := [] }
noncomputable def c8 : Code := bodyOf Try.f8
theorem b8 : Try.f8.body = some c8 := by kernel_rfl
theorem n8 : Try.f8.ntmps = M8.N := by kernel_rfl
theorem u8  {w : World} {R : Ending → World → Prop} (h : den Try.prog M8 c8 (argE 0 []) w (retK Try.prog Try.f8.results.toList R)) : Calls Try.prog 8 #[] w R := calls_den okProg Try.func8 b8 n8 (Nat.le_of_ble_eq_true rfl) h
theorem t8  (w : World) (R : Ending → World → Prop) : den Try.prog M8 c8 (argE 0 []) w (retK Try.prog Try.f8.results.toList R) =
(Call Try.prog 6 [Value.int IntKind.i64 2] w fun e w' =>
  ∃ p n,
    e = Ending.returned (Value.tuple #[Value.pointer p, Value.int IntKind.i64 n]) ∧
      ((n != (0 : Int)) = false →
          (Option.isNone p = true → R (Ending.returned (Value.bool false)) w') ∧
            (Option.isNone p = false →
              Call Try.prog 11
                [Value.pointer p, Value.int IntKind.i64 3, Value.int IntKind.i64 1] w' fun e w' =>
                ∃ n,
                  e = Ending.returned (Value.int IntKind.i64 n) ∧
                    Call Try.prog 11
                      [Value.pointer p, Value.int IntKind.i64 5, Value.int IntKind.i64 1] w' fun e w' =>
                      ∃ n,
                        e = Ending.returned (Value.int IntKind.i64 n) ∧
                          Call Try.prog 11
                            [Value.pointer p, Value.int IntKind.i64 3, Value.int IntKind.i64 0] w'
                            fun e w' =>
                            ∃ n,
                              e = Ending.returned (Value.int IntKind.i64 n) ∧
                                Call Try.prog 13 [Value.pointer p, Value.int IntKind.i64 3] w'
                                  fun e w' =>
                                  ∃ n_1 b,
                                    e = Ending.returned (Value.tuple #[Value.int IntKind.i64 n_1, Value.bool b]) ∧
                                      ((n == (0 : Int)) = true →
                                          Call Try.prog 16 [Value.pointer p, Value.int IntKind.i64 1] w'
                                            fun e w' =>
                                            ∃ p_1 n c,
                                              e = Ending.returned (Value.slice p_1 n c) ∧
                                                New w' [Value.int IntKind.i64 5] 3 fun p_2 w' =>
                                                  Call Try.prog 15
                                                    [Value.slice p_1 n c, Value.slice (some p_2) 1 1] w'
                                                    fun e w' =>
                                                    ∃ b_1,
                                                      e = Ending.returned (Value.bool b_1) ∧
                                                        (b_1 = true →
                                                            ((n_1 == (0 : Int)) = true →
                                                                (b = true →
                                                                    Call Try.prog 18 [Value.pointer p] w'
                                                                      fun e w' =>
                                                                      ∃ n,
                                                                        e = Ending.returned (Value.int IntKind.u64 n) ∧
                                                                          R
                                                                            (Ending.returned
                                                                              (Value.bool (n == (3 : Int))))
                                                                            w') ∧
                                                                  (b = false →
                                                                    R (Ending.returned (Value.bool false)) w')) ∧
                                                              ((n_1 == (0 : Int)) = false →
                                                                R (Ending.returned (Value.bool false)) w')) ∧
                                                          (b_1 = false → R (Ending.returned (Value.bool false)) w')) ∧
                                        ((n == (0 : Int)) = false → R (Ending.returned (Value.bool false)) w'))) ∧
        ((n != (0 : Int)) = true → R (Ending.returned (Value.bool false)) w')) := by kernel_rfl
/-! (*davit/route.Route).Off -/
def M9 : Mt := { N := 24, keep := [(0, [0, 1]), (1, [0, 1, 5]), (2, [0, 1, 5, 10]), (3, [4]), (4, [0, 1, 18]), (5, [4]), (6, []), (7, [4])], ords := [], bk := [], cuts := [], lk := [] }
noncomputable def c9 : Code := bodyOf Try.f9
theorem b9 : Try.f9.body = some c9 := by kernel_rfl
theorem n9 : Try.f9.ntmps = M9.N := by kernel_rfl
theorem u9 {p0_r : Option Addr} {p1_n : Int} {w : World} {R : Ending → World → Prop} (h : den Try.prog M9 c9 (argE 0 [(Value.pointer p0_r), (Value.int IntKind.i64 p1_n)]) w (retK Try.prog Try.f9.results.toList R)) : Calls Try.prog 9 #[(Value.pointer p0_r), (Value.int IntKind.i64 p1_n)] w R := calls_den okProg Try.func9 b9 n9 (Nat.le_of_ble_eq_true rfl) h
theorem t9 (p0_r : Option Addr) (p1_n : Int) (w : World) (R : Ending → World → Prop) : den Try.prog M9 c9 (argE 0 [(Value.pointer p0_r), (Value.int IntKind.i64 p1_n)]) w (retK Try.prog Try.f9.results.toList R) =
(Call Try.prog 21 [Value.pointer p0_r, Value.int IntKind.i64 p1_n] w fun e w' =>
  ∃ n,
    e = Ending.returned (Value.int IntKind.i64 n) ∧
      ((n != (0 : Int)) = true → R (Ending.returned (Value.int IntKind.i64 n)) w') ∧
        ((n != (0 : Int)) = false →
          ∃ a,
            p0_r = some a ∧
              ((0 : Int) ≤ p1_n ∧ p1_n < (↑16 : Int)) ∧
                ∃ n,
                  World.cell? w' (Addr.add (Addr.add a 0) (Int.toNat p1_n * 1)) =
                      some (Value.int IntKind.i64 n) ∧
                    ((n == (0 : Int)) = true → R (Ending.returned (Value.int IntKind.i64 4)) w') ∧
                      ((n == (0 : Int)) = false →
                        ∃ a,
                          p0_r = some a ∧
                            ((0 : Int) ≤ p1_n ∧ p1_n < (↑16 : Int)) ∧
                              Wr w' (Addr.add (Addr.add a 0) (Int.toNat p1_n * 1))
                                [Value.int IntKind.i64 0] fun w' =>
                                R (Ending.returned (Value.int IntKind.i64 0)) w'))) := by kernel_rfl
/-! (*davit/davitref16.Route).Off -/
def M10 : Mt := { N := 30, keep := [(0, [0, 1]), (1, [0, 1, 15]), (2, [4]), (3, [0, 1, 23]), (4, [4]), (5, []), (6, [4])], ords := [], bk := [], cuts := [], lk := [] }
noncomputable def c10 : Code := bodyOf Try.f10
theorem b10 : Try.f10.body = some c10 := by kernel_rfl
theorem n10 : Try.f10.ntmps = M10.N := by kernel_rfl
theorem u10 {p0_r : Option Addr} {p1_n : Int} {w : World} {R : Ending → World → Prop} (h : den Try.prog M10 c10 (argE 0 [(Value.pointer p0_r), (Value.int IntKind.i64 p1_n)]) w (retK Try.prog Try.f10.results.toList R)) : Calls Try.prog 10 #[(Value.pointer p0_r), (Value.int IntKind.i64 p1_n)] w R := calls_den okProg Try.func10 b10 n10 (Nat.le_of_ble_eq_true rfl) h
theorem t10 (p0_r : Option Addr) (p1_n : Int) (w : World) (R : Ending → World → Prop) : den Try.prog M10 c10 (argE 0 [(Value.pointer p0_r), (Value.int IntKind.i64 p1_n)]) w (retK Try.prog Try.f10.results.toList R) =
((decide (p1_n < (0 : Int)) = false →
    ∃ a,
      p0_r = some a ∧
        ∃ p n c,
          World.cell? w (Addr.add a 1) = some (Value.slice p n c) ∧
            (decide (p1_n ≥ (↑n : Int)) = true → R (Ending.returned (Value.int IntKind.i64 3)) w) ∧
              (decide (p1_n ≥ (↑n : Int)) = false →
                ∃ a,
                  p0_r = some a ∧
                    ∃ p n c,
                      World.cell? w (Addr.add a 1) = some (Value.slice p n c) ∧
                        ((0 : Int) ≤ p1_n ∧ p1_n < (↑n : Int)) ∧
                          ∃ a,
                            p = some a ∧
                              ∃ n,
                                World.cell? w (Addr.add a (Int.toNat p1_n * 1)) =
                                    some (Value.int IntKind.i64 n) ∧
                                  (decide (n < (0 : Int)) = true →
                                      R (Ending.returned (Value.int IntKind.i64 4)) w) ∧
                                    (decide (n < (0 : Int)) = false →
                                      ∃ a,
                                        p0_r = some a ∧
                                          ∃ p n c,
                                            World.cell? w (Addr.add a 1) = some (Value.slice p n c) ∧
                                              ((0 : Int) ≤ p1_n ∧ p1_n < (↑n : Int)) ∧
                                                ∃ a,
                                                  p = some a ∧
                                                    Wr w (Addr.add a (Int.toNat p1_n * 1))
                                                      [Value.int IntKind.i64 (-1 : Int)] fun w' =>
                                                      R (Ending.returned (Value.int IntKind.i64 0)) w'))) ∧
  (decide (p1_n < (0 : Int)) = true → R (Ending.returned (Value.int IntKind.i64 3)) w)) := by kernel_rfl
/-! (*davit/route.Route).Set -/
def M11 : Mt := { N := 31, keep := [(0, [0, 1, 2]), (1, [0, 1, 2, 7]), (2, [0, 1, 2, 7, 12]), (3, [6]), (4, [0, 1, 2, 23]), (5, [6]), (6, []), (7, [6])], ords := [], bk := [], cuts := [], lk := [] }
noncomputable def c11 : Code := bodyOf Try.f11
theorem b11 : Try.f11.body = some c11 := by kernel_rfl
theorem n11 : Try.f11.ntmps = M11.N := by kernel_rfl
theorem u11 {p0_r : Option Addr} {p1_n : Int} {p2_cpu : Int} {w : World} {R : Ending → World → Prop} (h : den Try.prog M11 c11 (argE 0 [(Value.pointer p0_r), (Value.int IntKind.i64 p1_n), (Value.int IntKind.i64 p2_cpu)]) w (retK Try.prog Try.f11.results.toList R)) : Calls Try.prog 11 #[(Value.pointer p0_r), (Value.int IntKind.i64 p1_n), (Value.int IntKind.i64 p2_cpu)] w R := calls_den okProg Try.func11 b11 n11 (Nat.le_of_ble_eq_true rfl) h
theorem t11 (p0_r : Option Addr) (p1_n : Int) (p2_cpu : Int) (w : World) (R : Ending → World → Prop) : den Try.prog M11 c11 (argE 0 [(Value.pointer p0_r), (Value.int IntKind.i64 p1_n), (Value.int IntKind.i64 p2_cpu)]) w (retK Try.prog Try.f11.results.toList R) =
(Call Try.prog 21 [Value.pointer p0_r, Value.int IntKind.i64 p1_n] w fun e w' =>
  ∃ n,
    e = Ending.returned (Value.int IntKind.i64 n) ∧
      ((n != (0 : Int)) = true → R (Ending.returned (Value.int IntKind.i64 n)) w') ∧
        ((n != (0 : Int)) = false →
          (decide (p2_cpu < (0 : Int)) = false →
              ∃ a,
                p0_r = some a ∧
                  ∃ n,
                    World.cell? w' (Addr.add a 16) = some (Value.int IntKind.i64 n) ∧
                      (decide (p2_cpu ≥ n) = true → R (Ending.returned (Value.int IntKind.i64 3)) w') ∧
                        (decide (p2_cpu ≥ n) = false →
                          ∃ a,
                            p0_r = some a ∧
                              ((0 : Int) ≤ p1_n ∧ p1_n < (↑16 : Int)) ∧
                                Wr w' (Addr.add (Addr.add a 0) (Int.toNat p1_n * 1))
                                  [Value.int IntKind.i64 (IntKind.wrap IntKind.i64 (p2_cpu + (1 : Int)))] fun w' =>
                                  R (Ending.returned (Value.int IntKind.i64 0)) w')) ∧
            (decide (p2_cpu < (0 : Int)) = true → R (Ending.returned (Value.int IntKind.i64 3)) w'))) := by kernel_rfl
/-! (*davit/davitref16.Route).Set -/
def M12 : Mt := { N := 37, keep := [(0, [0, 1, 2]), (1, [0, 1, 2, 29]), (2, [6]), (3, []), (4, [6])], ords := [], bk := [], cuts := [], lk := [] }
noncomputable def c12 : Code := bodyOf Try.f12
theorem b12 : Try.f12.body = some c12 := by kernel_rfl
theorem n12 : Try.f12.ntmps = M12.N := by kernel_rfl
theorem u12 {p0_r : Option Addr} {p1_n : Int} {p2_cpu : Int} {w : World} {R : Ending → World → Prop} (h : den Try.prog M12 c12 (argE 0 [(Value.pointer p0_r), (Value.int IntKind.i64 p1_n), (Value.int IntKind.i64 p2_cpu)]) w (retK Try.prog Try.f12.results.toList R)) : Calls Try.prog 12 #[(Value.pointer p0_r), (Value.int IntKind.i64 p1_n), (Value.int IntKind.i64 p2_cpu)] w R := calls_den okProg Try.func12 b12 n12 (Nat.le_of_ble_eq_true rfl) h
theorem t12 (p0_r : Option Addr) (p1_n : Int) (p2_cpu : Int) (w : World) (R : Ending → World → Prop) : den Try.prog M12 c12 (argE 0 [(Value.pointer p0_r), (Value.int IntKind.i64 p1_n), (Value.int IntKind.i64 p2_cpu)]) w (retK Try.prog Try.f12.results.toList R) =
((decide (p1_n < (0 : Int)) = false →
    ∃ a,
      p0_r = some a ∧
        ∃ p n c,
          World.cell? w (Addr.add a 1) = some (Value.slice p n c) ∧
            (decide (p1_n ≥ (↑n : Int)) = false →
                (decide (p2_cpu < (0 : Int)) = false →
                    ∃ a,
                      p0_r = some a ∧
                        ∃ n,
                          World.cell? w (Addr.add a 0) = some (Value.int IntKind.i64 n) ∧
                            (decide (p2_cpu ≥ n) = true → R (Ending.returned (Value.int IntKind.i64 3)) w) ∧
                              (decide (p2_cpu ≥ n) = false →
                                ∃ a,
                                  p0_r = some a ∧
                                    ∃ p n c,
                                      World.cell? w (Addr.add a 1) = some (Value.slice p n c) ∧
                                        ((0 : Int) ≤ p1_n ∧ p1_n < (↑n : Int)) ∧
                                          ∃ a,
                                            p = some a ∧
                                              Wr w (Addr.add a (Int.toNat p1_n * 1))
                                                [Value.int IntKind.i64 p2_cpu] fun w' =>
                                                R (Ending.returned (Value.int IntKind.i64 0)) w')) ∧
                  (decide (p2_cpu < (0 : Int)) = true → R (Ending.returned (Value.int IntKind.i64 3)) w)) ∧
              (decide (p1_n ≥ (↑n : Int)) = true → R (Ending.returned (Value.int IntKind.i64 3)) w)) ∧
  (decide (p1_n < (0 : Int)) = true → R (Ending.returned (Value.int IntKind.i64 3)) w)) := by kernel_rfl
/-! (*davit/route.Route).Of -/
def M13 : Mt := { N := 26, keep := [(0, [0, 1]), (1, [0, 1, 18]), (2, [4, 5]), (3, [4, 5])], ords := [], bk := [], cuts := [], lk := [] }
noncomputable def c13 : Code := bodyOf Try.f13
theorem b13 : Try.f13.body = some c13 := by kernel_rfl
theorem n13 : Try.f13.ntmps = M13.N := by kernel_rfl
theorem u13 {p0_r : Option Addr} {p1_n : Int} {w : World} {R : Ending → World → Prop} (h : den Try.prog M13 c13 (argE 0 [(Value.pointer p0_r), (Value.int IntKind.i64 p1_n)]) w (retK Try.prog Try.f13.results.toList R)) : Calls Try.prog 13 #[(Value.pointer p0_r), (Value.int IntKind.i64 p1_n)] w R := calls_den okProg Try.func13 b13 n13 (Nat.le_of_ble_eq_true rfl) h
theorem t13 (p0_r : Option Addr) (p1_n : Int) (w : World) (R : Ending → World → Prop) : den Try.prog M13 c13 (argE 0 [(Value.pointer p0_r), (Value.int IntKind.i64 p1_n)]) w (retK Try.prog Try.f13.results.toList R) =
(Call Try.prog 21 [Value.pointer p0_r, Value.int IntKind.i64 p1_n] w fun e w' =>
  ∃ n,
    e = Ending.returned (Value.int IntKind.i64 n) ∧
      ((n != (0 : Int)) = false →
          ∃ a,
            p0_r = some a ∧
              ((0 : Int) ≤ p1_n ∧ p1_n < (↑16 : Int)) ∧
                ∃ n,
                  World.cell? w' (Addr.add (Addr.add a 0) (Int.toNat p1_n * 1)) =
                      some (Value.int IntKind.i64 n) ∧
                    ((n == (0 : Int)) = true →
                        R (Ending.returned (Value.tuple #[Value.int IntKind.i64 0, Value.bool false])) w') ∧
                      ((n == (0 : Int)) = false →
                        ∃ a,
                          p0_r = some a ∧
                            ((0 : Int) ≤ p1_n ∧ p1_n < (↑16 : Int)) ∧
                              ∃ n,
                                World.cell? w' (Addr.add (Addr.add a 0) (Int.toNat p1_n * 1)) =
                                    some (Value.int IntKind.i64 n) ∧
                                  R
                                    (Ending.returned
                                      (Value.tuple
                                        #[Value.int IntKind.i64 (IntKind.wrap IntKind.i64 (n - (1 : Int))),
                                          Value.bool true]))
                                    w')) ∧
        ((n != (0 : Int)) = true →
          R (Ending.returned (Value.tuple #[Value.int IntKind.i64 0, Value.bool false])) w')) := by kernel_rfl
/-! (*davit/davitref16.Route).Of -/
def M14 : Mt := { N := 34, keep := [(0, [0, 1]), (1, [0, 1, 26]), (2, [4, 5]), (3, [4, 5])], ords := [], bk := [], cuts := [], lk := [] }
noncomputable def c14 : Code := bodyOf Try.f14
theorem b14 : Try.f14.body = some c14 := by kernel_rfl
theorem n14 : Try.f14.ntmps = M14.N := by kernel_rfl
theorem u14 {p0_r : Option Addr} {p1_n : Int} {w : World} {R : Ending → World → Prop} (h : den Try.prog M14 c14 (argE 0 [(Value.pointer p0_r), (Value.int IntKind.i64 p1_n)]) w (retK Try.prog Try.f14.results.toList R)) : Calls Try.prog 14 #[(Value.pointer p0_r), (Value.int IntKind.i64 p1_n)] w R := calls_den okProg Try.func14 b14 n14 (Nat.le_of_ble_eq_true rfl) h
theorem t14 (p0_r : Option Addr) (p1_n : Int) (w : World) (R : Ending → World → Prop) : den Try.prog M14 c14 (argE 0 [(Value.pointer p0_r), (Value.int IntKind.i64 p1_n)]) w (retK Try.prog Try.f14.results.toList R) =
((decide (p1_n < (0 : Int)) = false →
    ∃ a,
      p0_r = some a ∧
        ∃ p n c,
          World.cell? w (Addr.add a 1) = some (Value.slice p n c) ∧
            (decide (p1_n ≥ (↑n : Int)) = false →
                ∃ a,
                  p0_r = some a ∧
                    ∃ p n c,
                      World.cell? w (Addr.add a 1) = some (Value.slice p n c) ∧
                        ((0 : Int) ≤ p1_n ∧ p1_n < (↑n : Int)) ∧
                          ∃ a,
                            p = some a ∧
                              ∃ n,
                                World.cell? w (Addr.add a (Int.toNat p1_n * 1)) =
                                    some (Value.int IntKind.i64 n) ∧
                                  (decide (n < (0 : Int)) = true →
                                      R
                                        (Ending.returned
                                          (Value.tuple #[Value.int IntKind.i64 0, Value.bool false]))
                                        w) ∧
                                    (decide (n < (0 : Int)) = false →
                                      ∃ a,
                                        p0_r = some a ∧
                                          ∃ p n c,
                                            World.cell? w (Addr.add a 1) = some (Value.slice p n c) ∧
                                              ((0 : Int) ≤ p1_n ∧ p1_n < (↑n : Int)) ∧
                                                ∃ a,
                                                  p = some a ∧
                                                    ∃ n,
                                                      World.cell? w (Addr.add a (Int.toNat p1_n * 1)) =
                                                          some (Value.int IntKind.i64 n) ∧
                                                        R
                                                          (Ending.returned
                                                            (Value.tuple #[Value.int IntKind.i64 n, Value.bool true]))
                                                          w)) ∧
              (decide (p1_n ≥ (↑n : Int)) = true →
                R (Ending.returned (Value.tuple #[Value.int IntKind.i64 0, Value.bool false])) w)) ∧
  (decide (p1_n < (0 : Int)) = true →
    R (Ending.returned (Value.tuple #[Value.int IntKind.i64 0, Value.bool false])) w)) := by kernel_rfl
/-! davit/davitref01.Ints -/
def M15 : Mt := { N := 26, keep := [(0, [0, 1]), (1, [0, 1, 10]), (2, [4]), (3, [0, 1, 5]), (4, [0, 1, 5, 14]), (5, [0, 1, 5]), (6, [0, 1, 5, 25]), (7, [4]), (8, [4])], ords := [(6, [0, 1, 2, 3, 4, 5, 6, 7, 8])], bk := [(0, []), (1, [0, 1, 5])], cuts := [], lk := [(4, [0, 1, 5])] }
noncomputable def c15 : Code := bodyOf Try.f15
noncomputable def c15_0 : Code := c15.sr.sr.sr
noncomputable def c15_1 : Code := c15.sr.sr.sl.sr.sl.sl
def e15_1 (p0_a_a : Option Addr) (p0_a_n : Nat) (p0_a_c : Nat) (p1_b_a : Option Addr) (p1_b_n : Nat) (p1_b_c : Nat) (p5_i : Int) : Env := [(0, SV.v (Value.slice p0_a_a p0_a_n p0_a_c)), (1, SV.v (Value.slice p1_b_a p1_b_n p1_b_c)), (5, SV.v (Value.int IntKind.i64 p5_i))]
def k15_1 (R : Ending → World → Prop) : Cont := blockK 0 [] (seqK (fun E w => cutB (findL M15.cuts (headReg c15_0)) Try.prog M15 c15_0 E w (retK Try.prog Try.f15.results.toList R) fun E => den Try.prog M15 c15_0 E w (retK Try.prog Try.f15.results.toList R)) (retK Try.prog Try.f15.results.toList R))
theorem b15 : Try.f15.body = some c15 := by kernel_rfl
theorem n15 : Try.f15.ntmps = M15.N := by kernel_rfl
theorem u15 {p0_a_a : Option Addr} {p0_a_n : Nat} {p0_a_c : Nat} {p1_b_a : Option Addr} {p1_b_n : Nat} {p1_b_c : Nat} {w : World} {R : Ending → World → Prop} (h : den Try.prog M15 c15 (argE 0 [(Value.slice p0_a_a p0_a_n p0_a_c), (Value.slice p1_b_a p1_b_n p1_b_c)]) w (retK Try.prog Try.f15.results.toList R)) : Calls Try.prog 15 #[(Value.slice p0_a_a p0_a_n p0_a_c), (Value.slice p1_b_a p1_b_n p1_b_c)] w R := calls_den okProg Try.func15 b15 n15 (Nat.le_of_ble_eq_true rfl) h
theorem t15 (p0_a_a : Option Addr) (p0_a_n : Nat) (p0_a_c : Nat) (p1_b_a : Option Addr) (p1_b_n : Nat) (p1_b_c : Nat) (w : World) (R : Ending → World → Prop) : den Try.prog M15 c15 (argE 0 [(Value.slice p0_a_a p0_a_n p0_a_c), (Value.slice p1_b_a p1_b_n p1_b_c)]) w (retK Try.prog Try.f15.results.toList R) =
((((↑p0_a_n : Int) != (↑p1_b_n : Int)) = true → R (Ending.returned (Value.bool false)) w) ∧
  (((↑p0_a_n : Int) != (↑p1_b_n : Int)) = false →
    Cut
      (WP Try.prog 26 (Code.loop c15_1) (e15_1 p0_a_a p0_a_n p0_a_c p1_b_a p1_b_n p1_b_c (0 : Int)) w
        (k15_1 R)))) := by kernel_rfl
theorem t15_1 (p0_a_a : Option Addr) (p0_a_n : Nat) (p0_a_c : Nat) (p1_b_a : Option Addr) (p1_b_n : Nat) (p1_b_c : Nat) (p5_i : Int) (w : World) (B15_1 : Env → World → Prop) (R : Ending → World → Prop) : den Try.prog M15 c15_1 (e15_1 p0_a_a p0_a_n p0_a_c p1_b_a p1_b_n p1_b_c p5_i) w (loopK B15_1 (k15_1 R)) =
((decide (p5_i < (↑p0_a_n : Int)) = true →
    ∀ (w' : World),
      World.heap w' = World.heap w →
        World.os w' = World.os w →
          World.tape w' = World.tape w →
            World.output w' = World.output w →
              ((0 : Int) ≤ p5_i ∧ p5_i < (↑p0_a_n : Int)) ∧
                ∃ a,
                  p0_a_a = some a ∧
                    ∃ n,
                      World.cell? w' (Addr.add a (Int.toNat p5_i * 1)) = some (Value.int IntKind.i64 n) ∧
                        ((0 : Int) ≤ p5_i ∧ p5_i < (↑p1_b_n : Int)) ∧
                          ∃ a,
                            p1_b_a = some a ∧
                              ∃ n_1,
                                World.cell? w' (Addr.add a (Int.toNat p5_i * 1)) =
                                    some (Value.int IntKind.i64 n_1) ∧
                                  ((n != n_1) = true → R (Ending.returned (Value.bool false)) w') ∧
                                    ((n != n_1) = false →
                                      B15_1
                                        [(0, SV.v (Value.slice p0_a_a p0_a_n p0_a_c)),
                                          (1, SV.v (Value.slice p1_b_a p1_b_n p1_b_c)),
                                          (5,
                                            SV.v
                                              (Value.int IntKind.i64 (IntKind.wrap IntKind.i64 (p5_i + (1 : Int)))))]
                                        w')) ∧
  (decide (p5_i < (↑p0_a_n : Int)) = false → R (Ending.returned (Value.bool true)) w)) := by kernel_rfl
/-! (*davit/route.Route).On -/
def M16 : Mt := { N := 32, keep := [(0, [0, 1]), (1, [0, 1, 10]), (2, [4]), (3, [0, 1, 5]), (4, [0, 1, 5, 11]), (5, [0, 1, 5, 11, 12]), (6, [0, 1, 5, 6, 11]), (7, [0, 1, 5, 6, 7, 8, 11]), (8, [0, 1, 5, 6, 11, 25]), (9, [0, 1, 5, 11]), (10, [0, 1, 5, 11]), (11, [4])], ords := [], bk := [(0, [5]), (1, [0, 1, 5, 11])], cuts := [], lk := [(5, [0, 1, 5, 11])] }
noncomputable def c16 : Code := bodyOf Try.f16
noncomputable def c16_0 : Code := c16.sr.sr.sr.sr
noncomputable def c16_1 : Code := c16.sr.sr.sr.sl.sr.sl.sl
def e16_1 (p0_r : Option Addr) (p1_cpu : Int) (p5_l_a : Option Addr) (p5_l_n : Nat) (p5_l_c : Nat) (p11_t : Int) : Env := [(0, SV.v (Value.pointer p0_r)), (1, SV.v (Value.int IntKind.i64 p1_cpu)), (5, SV.v (Value.slice p5_l_a p5_l_n p5_l_c)), (11, SV.v (Value.int IntKind.i64 p11_t))]
def k16_1 (R : Ending → World → Prop) : Cont := blockK 0 [5] (seqK (fun E w => cutB (findL M16.cuts (headReg c16_0)) Try.prog M16 c16_0 E w (retK Try.prog Try.f16.results.toList R) fun E => den Try.prog M16 c16_0 E w (retK Try.prog Try.f16.results.toList R)) (retK Try.prog Try.f16.results.toList R))
theorem b16 : Try.f16.body = some c16 := by kernel_rfl
theorem n16 : Try.f16.ntmps = M16.N := by kernel_rfl
theorem u16 {p0_r : Option Addr} {p1_cpu : Int} {w : World} {R : Ending → World → Prop} (h : den Try.prog M16 c16 (argE 0 [(Value.pointer p0_r), (Value.int IntKind.i64 p1_cpu)]) w (retK Try.prog Try.f16.results.toList R)) : Calls Try.prog 16 #[(Value.pointer p0_r), (Value.int IntKind.i64 p1_cpu)] w R := calls_den okProg Try.func16 b16 n16 (Nat.le_of_ble_eq_true rfl) h
theorem t16 (p0_r : Option Addr) (p1_cpu : Int) (w : World) (R : Ending → World → Prop) : den Try.prog M16 c16 (argE 0 [(Value.pointer p0_r), (Value.int IntKind.i64 p1_cpu)]) w (retK Try.prog Try.f16.results.toList R) =
((Option.isNone p0_r = true → R (Ending.returned (Value.slice none 0 0)) w) ∧
  (Option.isNone p0_r = false →
    Cut
      (WP Try.prog 32 (Code.loop c16_1) (e16_1 p0_r p1_cpu none 0 0 (0 : Int)) w (k16_1 R)))) := by kernel_rfl
theorem t16_1 (p0_r : Option Addr) (p1_cpu : Int) (p5_l_a : Option Addr) (p5_l_n : Nat) (p5_l_c : Nat) (p11_t : Int) (w : World) (B16_1 : Env → World → Prop) (R : Ending → World → Prop) : den Try.prog M16 c16_1 (e16_1 p0_r p1_cpu p5_l_a p5_l_n p5_l_c p11_t) w (loopK B16_1 (k16_1 R)) =
((decide (p11_t < (16 : Int)) = true →
    Call Try.prog 13 [Value.pointer p0_r, Value.int IntKind.i64 p11_t] w fun e w' =>
      ∃ n b,
        e = Ending.returned (Value.tuple #[Value.int IntKind.i64 n, Value.bool b]) ∧
          (b = true →
              ((n == p1_cpu) = true →
                  New w' [Value.int IntKind.i64 p11_t] 3 fun p w' =>
                    ∃ p_1 n c w'_1,
                      Sem.run Try.prog
                            (Builtin.append_ #[38, 38] 38
                              #[Value.slice p5_l_a p5_l_n p5_l_c, Value.slice (some p) 1 1])
                            w' =
                          Result.ok (Value.slice p_1 n c) w'_1 ∧
                        B16_1
                          [(0, SV.v (Value.pointer p0_r)), (1, SV.v (Value.int IntKind.i64 p1_cpu)),
                            (5, SV.v (Value.slice p_1 n c)),
                            (11, SV.v (Value.int IntKind.i64 (IntKind.wrap IntKind.i64 (p11_t + (1 : Int)))))]
                          w'_1) ∧
                ((n == p1_cpu) = false →
                  B16_1
                    [(0, SV.v (Value.pointer p0_r)), (1, SV.v (Value.int IntKind.i64 p1_cpu)),
                      (5, SV.v (Value.slice p5_l_a p5_l_n p5_l_c)),
                      (11, SV.v (Value.int IntKind.i64 (IntKind.wrap IntKind.i64 (p11_t + (1 : Int)))))]
                    w')) ∧
            (b = false →
              B16_1
                [(0, SV.v (Value.pointer p0_r)), (1, SV.v (Value.int IntKind.i64 p1_cpu)),
                  (5, SV.v (Value.slice p5_l_a p5_l_n p5_l_c)),
                  (11, SV.v (Value.int IntKind.i64 (IntKind.wrap IntKind.i64 (p11_t + (1 : Int)))))]
                w')) ∧
  (decide (p11_t < (16 : Int)) = false → R (Ending.returned (Value.slice p5_l_a p5_l_n p5_l_c)) w)) := by kernel_rfl
/-! (*davit/davitref16.Route).On -/
def M17 : Mt := { N := 34, keep := [(0, [0, 1]), (1, [0, 1, 5]), (2, [0, 1, 5, 6]), (3, [0, 1, 5, 6, 17]), (4, [0, 1, 5, 6]), (5, [0, 1, 5, 6, 28]), (6, [0, 1, 5, 6]), (7, [4])], ords := [], bk := [(0, [5]), (1, [0, 1, 5, 6])], cuts := [], lk := [(3, [0, 1, 5, 6])] }
noncomputable def c17 : Code := bodyOf Try.f17
noncomputable def c17_0 : Code := c17.sr.sr.sr
noncomputable def c17_1 : Code := c17.sr.sr.sl.sr.sl.sl
def e17_1 (p0_r : Option Addr) (p1_cpu : Int) (p5_out_a : Option Addr) (p5_out_n : Nat) (p5_out_c : Nat) (p6_i : Int) : Env := [(0, SV.v (Value.pointer p0_r)), (1, SV.v (Value.int IntKind.i64 p1_cpu)), (5, SV.v (Value.slice p5_out_a p5_out_n p5_out_c)), (6, SV.v (Value.int IntKind.i64 p6_i))]
def k17_1 (R : Ending → World → Prop) : Cont := blockK 0 [5] (seqK (fun E w => cutB (findL M17.cuts (headReg c17_0)) Try.prog M17 c17_0 E w (retK Try.prog Try.f17.results.toList R) fun E => den Try.prog M17 c17_0 E w (retK Try.prog Try.f17.results.toList R)) (retK Try.prog Try.f17.results.toList R))
theorem b17 : Try.f17.body = some c17 := by kernel_rfl
theorem n17 : Try.f17.ntmps = M17.N := by kernel_rfl
theorem u17 {p0_r : Option Addr} {p1_cpu : Int} {w : World} {R : Ending → World → Prop} (h : den Try.prog M17 c17 (argE 0 [(Value.pointer p0_r), (Value.int IntKind.i64 p1_cpu)]) w (retK Try.prog Try.f17.results.toList R)) : Calls Try.prog 17 #[(Value.pointer p0_r), (Value.int IntKind.i64 p1_cpu)] w R := calls_den okProg Try.func17 b17 n17 (Nat.le_of_ble_eq_true rfl) h
theorem t17 (p0_r : Option Addr) (p1_cpu : Int) (w : World) (R : Ending → World → Prop) : den Try.prog M17 c17 (argE 0 [(Value.pointer p0_r), (Value.int IntKind.i64 p1_cpu)]) w (retK Try.prog Try.f17.results.toList R) =
(Cut (WP Try.prog 34 (Code.loop c17_1) (e17_1 p0_r p1_cpu none 0 0 (0 : Int)) w (k17_1 R))) := by kernel_rfl
theorem t17_1 (p0_r : Option Addr) (p1_cpu : Int) (p5_out_a : Option Addr) (p5_out_n : Nat) (p5_out_c : Nat) (p6_i : Int) (w : World) (B17_1 : Env → World → Prop) (R : Ending → World → Prop) : den Try.prog M17 c17_1 (e17_1 p0_r p1_cpu p5_out_a p5_out_n p5_out_c p6_i) w (loopK B17_1 (k17_1 R)) =
(∃ a,
  p0_r = some a ∧
    ∃ p n c,
      World.cell? w (Addr.add a 1) = some (Value.slice p n c) ∧
        (decide (p6_i < (↑n : Int)) = true →
            (decide (p1_cpu ≥ (0 : Int)) = true →
                ∃ a,
                  p0_r = some a ∧
                    ∃ p n c,
                      World.cell? w (Addr.add a 1) = some (Value.slice p n c) ∧
                        ((0 : Int) ≤ p6_i ∧ p6_i < (↑n : Int)) ∧
                          ∃ a,
                            p = some a ∧
                              ∃ n,
                                World.cell? w (Addr.add a (Int.toNat p6_i * 1)) =
                                    some (Value.int IntKind.i64 n) ∧
                                  ((n == p1_cpu) = true →
                                      New w [Value.int IntKind.i64 p6_i] 3 fun p w' =>
                                        ∃ p_1 n c w'_1,
                                          Sem.run Try.prog
                                                (Builtin.append_ #[38, 38] 38
                                                  #[Value.slice p5_out_a p5_out_n p5_out_c,
                                                    Value.slice (some p) 1 1])
                                                w' =
                                              Result.ok (Value.slice p_1 n c) w'_1 ∧
                                            B17_1
                                              [(0, SV.v (Value.pointer p0_r)),
                                                (1, SV.v (Value.int IntKind.i64 p1_cpu)),
                                                (5, SV.v (Value.slice p_1 n c)),
                                                (6,
                                                  SV.v
                                                    (Value.int IntKind.i64
                                                      (IntKind.wrap IntKind.i64 (p6_i + (1 : Int)))))]
                                              w'_1) ∧
                                    ((n == p1_cpu) = false →
                                      B17_1
                                        [(0, SV.v (Value.pointer p0_r)),
                                          (1, SV.v (Value.int IntKind.i64 p1_cpu)),
                                          (5, SV.v (Value.slice p5_out_a p5_out_n p5_out_c)),
                                          (6,
                                            SV.v
                                              (Value.int IntKind.i64 (IntKind.wrap IntKind.i64 (p6_i + (1 : Int)))))]
                                        w)) ∧
              (decide (p1_cpu ≥ (0 : Int)) = false →
                R (Ending.returned (Value.slice p5_out_a p5_out_n p5_out_c)) w)) ∧
          (decide (p6_i < (↑n : Int)) = false → R (Ending.returned (Value.slice p5_out_a p5_out_n p5_out_c)) w)) := by kernel_rfl
/-! (*davit/route.Route).Cores -/
def M18 : Mt := { N := 22, keep := [(0, [0]), (1, [0, 7]), (2, [2]), (3, [0, 3]), (4, [3, 11, 12]), (5, [3, 11, 12, 13]), (6, [3, 5, 11, 12]), (7, [3, 11, 12]), (8, [3, 11, 12]), (9, [2])], ords := [], bk := [(0, [3]), (1, [3, 11, 12])], cuts := [], lk := [(5, [3, 11, 12])] }
noncomputable def c18 : Code := bodyOf Try.f18
noncomputable def c18_0 : Code := c18.sr.sr.sr.sr
noncomputable def c18_1 : Code := c18.sr.sr.sr.sl.sr.sl.sl
def e18_1 (p3_m : Int) (p11_t : List Value) (p12_t : Int) : Env := [(3, SV.v (Value.int IntKind.u64 p3_m)), (11, SV.v (Value.agg p11_t.toArray)), (12, SV.v (Value.int IntKind.i64 p12_t))]
def k18_1 (R : Ending → World → Prop) : Cont := blockK 0 [3] (seqK (fun E w => cutB (findL M18.cuts (headReg c18_0)) Try.prog M18 c18_0 E w (retK Try.prog Try.f18.results.toList R) fun E => den Try.prog M18 c18_0 E w (retK Try.prog Try.f18.results.toList R)) (retK Try.prog Try.f18.results.toList R))
theorem b18 : Try.f18.body = some c18 := by kernel_rfl
theorem n18 : Try.f18.ntmps = M18.N := by kernel_rfl
theorem u18 {p0_r : Option Addr} {w : World} {R : Ending → World → Prop} (h : den Try.prog M18 c18 (argE 0 [(Value.pointer p0_r)]) w (retK Try.prog Try.f18.results.toList R)) : Calls Try.prog 18 #[(Value.pointer p0_r)] w R := calls_den okProg Try.func18 b18 n18 (Nat.le_of_ble_eq_true rfl) h
theorem t18 (p0_r : Option Addr) (w : World) (R : Ending → World → Prop) : den Try.prog M18 c18 (argE 0 [(Value.pointer p0_r)]) w (retK Try.prog Try.f18.results.toList R) =
((Option.isNone p0_r = true → R (Ending.returned (Value.int IntKind.u64 0)) w) ∧
  (Option.isNone p0_r = false →
    ∃ a,
      p0_r = some a ∧
        ∃ cs,
          List.length cs = 16 ∧
            (∀ (j : Nat) (v : Value), cs[j]? = some v → World.cell? w (Addr.add (Addr.add a 0) j) = some v) ∧
              Cut (WP Try.prog 22 (Code.loop c18_1) (e18_1 (0 : Int) cs (0 : Int)) w (k18_1 R)))) := by kernel_rfl
theorem t18_1 (p3_m : Int) (p11_t : List Value) (p12_t : Int) (w : World) (B18_1 : Env → World → Prop) (R : Ending → World → Prop) : den Try.prog M18 c18_1 (e18_1 p3_m p11_t p12_t) w (loopK B18_1 (k18_1 R)) =
((decide (p12_t < (16 : Int)) = true →
    ((0 : Int) ≤ p12_t ∧ p12_t < (↑16 : Int)) ∧
      ∃ n,
        (Array.toList (List.toArray p11_t))[Int.toNat p12_t * 1]? = some (Value.int IntKind.i64 n) ∧
          New w [Value.int IntKind.i64 (IntKind.wrap IntKind.i64 (n - (1 : Int)))] 3 fun p w' =>
            Call Try.prog 22 [Value.int IntKind.u64 p3_m, Value.slice (some p) 1 1] w'
              fun e w' =>
              ∃ n,
                e = Ending.returned (Value.int IntKind.u64 n) ∧
                  B18_1
                    [(3, SV.v (Value.int IntKind.u64 n)), (11, SV.v (Value.agg (List.toArray p11_t))),
                      (12, SV.v (Value.int IntKind.i64 (IntKind.wrap IntKind.i64 (p12_t + (1 : Int)))))]
                    w') ∧
  (decide (p12_t < (16 : Int)) = false → R (Ending.returned (Value.int IntKind.u64 p3_m)) w)) := by kernel_rfl
/-! (*davit/davitref16.Route).Cores -/
def M19 : Mt := { N := 8, keep := [(0, [0]), (1, [2])], ords := [], bk := [], cuts := [], lk := [] }
noncomputable def c19 : Code := bodyOf Try.f19
theorem b19 : Try.f19.body = some c19 := by kernel_rfl
theorem n19 : Try.f19.ntmps = M19.N := by kernel_rfl
theorem u19 {p0_r : Option Addr} {w : World} {R : Ending → World → Prop} (h : den Try.prog M19 c19 (argE 0 [(Value.pointer p0_r)]) w (retK Try.prog Try.f19.results.toList R)) : Calls Try.prog 19 #[(Value.pointer p0_r)] w R := calls_den okProg Try.func19 b19 n19 (Nat.le_of_ble_eq_true rfl) h
theorem t19 (p0_r : Option Addr) (w : World) (R : Ending → World → Prop) : den Try.prog M19 c19 (argE 0 [(Value.pointer p0_r)]) w (retK Try.prog Try.f19.results.toList R) =
(∃ a,
  p0_r = some a ∧
    ∃ p n c,
      World.cell? w (Addr.add a 1) = some (Value.slice p n c) ∧
        Call Try.prog 23 [Value.slice p n c] w fun e w' =>
          ∃ n, e = Ending.returned (Value.int IntKind.u64 n) ∧ R (Ending.returned (Value.int IntKind.u64 n)) w') := by kernel_rfl
/-! (davit/mask.Mask).Has -/
def M20 : Mt := { N := 10, keep := [(0, [0, 1]), (1, [4])], ords := [], bk := [], cuts := [], lk := [] }
noncomputable def c20 : Code := bodyOf Try.f20
theorem b20 : Try.f20.body = some c20 := by kernel_rfl
theorem n20 : Try.f20.ntmps = M20.N := by kernel_rfl
theorem u20 {p0_m : Int} {p1_cpu : Int} {w : World} {R : Ending → World → Prop} (h : den Try.prog M20 c20 (argE 0 [(Value.int IntKind.u64 p0_m), (Value.int IntKind.i64 p1_cpu)]) w (retK Try.prog Try.f20.results.toList R)) : Calls Try.prog 20 #[(Value.int IntKind.u64 p0_m), (Value.int IntKind.i64 p1_cpu)] w R := calls_den okProg Try.func20 b20 n20 (Nat.le_of_ble_eq_true rfl) h
theorem t20 (p0_m : Int) (p1_cpu : Int) (w : World) (R : Ending → World → Prop) : den Try.prog M20 c20 (argE 0 [(Value.int IntKind.u64 p0_m), (Value.int IntKind.i64 p1_cpu)]) w (retK Try.prog Try.f20.results.toList R) =
(Call Try.prog 24 [Value.int IntKind.i64 p1_cpu] w fun e w' =>
  ∃ n,
    e = Ending.returned (Value.int IntKind.u64 n) ∧
      R (Ending.returned (Value.bool (bitsOp BinOp.and IntKind.u64 p0_m n != (0 : Int)))) w') := by kernel_rfl
/-! (*davit/route.Route).may -/
def M21 : Mt := { N := 15, keep := [(0, [0, 1]), (1, [1, 5]), (2, [4]), (3, [8]), (4, [4]), (5, [4])], ords := [], bk := [(0, [])], cuts := [], lk := [] }
noncomputable def c21 : Code := bodyOf Try.f21
theorem b21 : Try.f21.body = some c21 := by kernel_rfl
theorem n21 : Try.f21.ntmps = M21.N := by kernel_rfl
theorem u21 {p0_r : Option Addr} {p1_n : Int} {w : World} {R : Ending → World → Prop} (h : den Try.prog M21 c21 (argE 0 [(Value.pointer p0_r), (Value.int IntKind.i64 p1_n)]) w (retK Try.prog Try.f21.results.toList R)) : Calls Try.prog 21 #[(Value.pointer p0_r), (Value.int IntKind.i64 p1_n)] w R := calls_den okProg Try.func21 b21 n21 (Nat.le_of_ble_eq_true rfl) h
theorem t21 (p0_r : Option Addr) (p1_n : Int) (w : World) (R : Ending → World → Prop) : den Try.prog M21 c21 (argE 0 [(Value.pointer p0_r), (Value.int IntKind.i64 p1_n)]) w (retK Try.prog Try.f21.results.toList R) =
((Option.isNone p0_r = true → R (Ending.returned (Value.int IntKind.i64 1)) w) ∧
  (Option.isNone p0_r = false →
    (decide (p1_n < (0 : Int)) = false →
        (decide (p1_n ≥ (16 : Int)) = true → R (Ending.returned (Value.int IntKind.i64 3)) w) ∧
          (decide (p1_n ≥ (16 : Int)) = false → R (Ending.returned (Value.int IntKind.i64 0)) w)) ∧
      (decide (p1_n < (0 : Int)) = true → R (Ending.returned (Value.int IntKind.i64 3)) w))) := by kernel_rfl
/-! (davit/mask.Mask).With -/
def M22 : Mt := { N := 19, keep := [(0, [0, 1]), (1, [0, 7, 8, 9]), (2, [0, 7, 8, 9, 10]), (3, [0, 6, 7, 8, 9]), (4, [0, 7, 8, 9]), (5, [0, 7, 8, 9]), (6, [4])], ords := [], bk := [(0, [0]), (1, [0, 7, 8, 9])], cuts := [], lk := [(2, [0, 7, 8, 9])] }
noncomputable def c22 : Code := bodyOf Try.f22
noncomputable def c22_0 : Code := c22.sr.sr
noncomputable def c22_1 : Code := c22.sr.sl.sr.sl.sl
def e22_1 (p0_m : Int) (p7_t_a : Option Addr) (p7_t_n : Nat) (p7_t_c : Nat) (p8_t : Int) (p9_t : Int) : Env := [(0, SV.v (Value.int IntKind.u64 p0_m)), (7, SV.v (Value.slice p7_t_a p7_t_n p7_t_c)), (8, SV.v (Value.int IntKind.i64 p8_t)), (9, SV.v (Value.int IntKind.i64 p9_t))]
def k22_1 (R : Ending → World → Prop) : Cont := blockK 0 [0] (seqK (fun E w => cutB (findL M22.cuts (headReg c22_0)) Try.prog M22 c22_0 E w (retK Try.prog Try.f22.results.toList R) fun E => den Try.prog M22 c22_0 E w (retK Try.prog Try.f22.results.toList R)) (retK Try.prog Try.f22.results.toList R))
theorem b22 : Try.f22.body = some c22 := by kernel_rfl
theorem n22 : Try.f22.ntmps = M22.N := by kernel_rfl
theorem u22 {p0_m : Int} {p1_cpus_a : Option Addr} {p1_cpus_n : Nat} {p1_cpus_c : Nat} {w : World} {R : Ending → World → Prop} (h : den Try.prog M22 c22 (argE 0 [(Value.int IntKind.u64 p0_m), (Value.slice p1_cpus_a p1_cpus_n p1_cpus_c)]) w (retK Try.prog Try.f22.results.toList R)) : Calls Try.prog 22 #[(Value.int IntKind.u64 p0_m), (Value.slice p1_cpus_a p1_cpus_n p1_cpus_c)] w R := calls_den okProg Try.func22 b22 n22 (Nat.le_of_ble_eq_true rfl) h
theorem t22 (p0_m : Int) (p1_cpus_a : Option Addr) (p1_cpus_n : Nat) (p1_cpus_c : Nat) (w : World) (R : Ending → World → Prop) : den Try.prog M22 c22 (argE 0 [(Value.int IntKind.u64 p0_m), (Value.slice p1_cpus_a p1_cpus_n p1_cpus_c)]) w (retK Try.prog Try.f22.results.toList R) =
(Cut
  (WP Try.prog 19 (Code.loop c22_1) (e22_1 p0_m p1_cpus_a p1_cpus_n p1_cpus_c (↑p1_cpus_n : Int) (0 : Int))
    w (k22_1 R))) := by kernel_rfl
theorem t22_1 (p0_m : Int) (p7_t_a : Option Addr) (p7_t_n : Nat) (p7_t_c : Nat) (p8_t : Int) (p9_t : Int) (w : World) (B22_1 : Env → World → Prop) (R : Ending → World → Prop) : den Try.prog M22 c22_1 (e22_1 p0_m p7_t_a p7_t_n p7_t_c p8_t p9_t) w (loopK B22_1 (k22_1 R)) =
((decide (p9_t < p8_t) = true →
    ((0 : Int) ≤ p9_t ∧ p9_t < (↑p7_t_n : Int)) ∧
      ∃ a,
        p7_t_a = some a ∧
          ∃ n,
            World.cell? w (Addr.add a (Int.toNat p9_t * 1)) = some (Value.int IntKind.i64 n) ∧
              Call Try.prog 24 [Value.int IntKind.i64 n] w fun e w' =>
                ∃ n,
                  e = Ending.returned (Value.int IntKind.u64 n) ∧
                    B22_1
                      [(0, SV.v (Value.int IntKind.u64 (bitsOp BinOp.or IntKind.u64 p0_m n))),
                        (7, SV.v (Value.slice p7_t_a p7_t_n p7_t_c)),
                        (8, SV.v (Value.int IntKind.i64 p8_t)),
                        (9, SV.v (Value.int IntKind.i64 (IntKind.wrap IntKind.i64 (p9_t + (1 : Int)))))]
                      w') ∧
  (decide (p9_t < p8_t) = false → R (Ending.returned (Value.int IntKind.u64 p0_m)) w)) := by kernel_rfl
/-! davit/davitref01.Of -/
def M23 : Mt := { N := 18, keep := [(0, [0]), (1, [0, 3]), (2, [0, 3, 4]), (3, [0, 3, 4, 8]), (4, [0, 3, 4]), (5, [0, 3, 4]), (6, [2])], ords := [], bk := [(0, [3]), (1, [0, 3, 4])], cuts := [], lk := [(3, [0, 3, 4])] }
noncomputable def c23 : Code := bodyOf Try.f23
noncomputable def c23_0 : Code := c23.sr.sr.sr
noncomputable def c23_1 : Code := c23.sr.sr.sl.sr.sl.sl
def e23_1 (p0_l_a : Option Addr) (p0_l_n : Nat) (p0_l_c : Nat) (p3_m : Int) (p4_i : Int) : Env := [(0, SV.v (Value.slice p0_l_a p0_l_n p0_l_c)), (3, SV.v (Value.int IntKind.u64 p3_m)), (4, SV.v (Value.int IntKind.i64 p4_i))]
def k23_1 (R : Ending → World → Prop) : Cont := blockK 0 [3] (seqK (fun E w => cutB (findL M23.cuts (headReg c23_0)) Try.prog M23 c23_0 E w (retK Try.prog Try.f23.results.toList R) fun E => den Try.prog M23 c23_0 E w (retK Try.prog Try.f23.results.toList R)) (retK Try.prog Try.f23.results.toList R))
theorem b23 : Try.f23.body = some c23 := by kernel_rfl
theorem n23 : Try.f23.ntmps = M23.N := by kernel_rfl
theorem u23 {p0_l_a : Option Addr} {p0_l_n : Nat} {p0_l_c : Nat} {w : World} {R : Ending → World → Prop} (h : den Try.prog M23 c23 (argE 0 [(Value.slice p0_l_a p0_l_n p0_l_c)]) w (retK Try.prog Try.f23.results.toList R)) : Calls Try.prog 23 #[(Value.slice p0_l_a p0_l_n p0_l_c)] w R := calls_den okProg Try.func23 b23 n23 (Nat.le_of_ble_eq_true rfl) h
theorem t23 (p0_l_a : Option Addr) (p0_l_n : Nat) (p0_l_c : Nat) (w : World) (R : Ending → World → Prop) : den Try.prog M23 c23 (argE 0 [(Value.slice p0_l_a p0_l_n p0_l_c)]) w (retK Try.prog Try.f23.results.toList R) =
(Cut (WP Try.prog 18 (Code.loop c23_1) (e23_1 p0_l_a p0_l_n p0_l_c (0 : Int) (0 : Int)) w (k23_1 R))) := by kernel_rfl
theorem t23_1 (p0_l_a : Option Addr) (p0_l_n : Nat) (p0_l_c : Nat) (p3_m : Int) (p4_i : Int) (w : World) (B23_1 : Env → World → Prop) (R : Ending → World → Prop) : den Try.prog M23 c23_1 (e23_1 p0_l_a p0_l_n p0_l_c p3_m p4_i) w (loopK B23_1 (k23_1 R)) =
((decide (p4_i < (↑p0_l_n : Int)) = true →
    ((0 : Int) ≤ p4_i ∧ p4_i < (↑p0_l_n : Int)) ∧
      ∃ a,
        p0_l_a = some a ∧
          ∃ n,
            World.cell? w (Addr.add a (Int.toNat p4_i * 1)) = some (Value.int IntKind.i64 n) ∧
              Call Try.prog 25 [Value.int IntKind.u64 p3_m, Value.int IntKind.i64 n] w fun e w' =>
                ∃ n,
                  e = Ending.returned (Value.int IntKind.u64 n) ∧
                    B23_1
                      [(0, SV.v (Value.slice p0_l_a p0_l_n p0_l_c)),
                        (3, SV.v (Value.int IntKind.u64 n)),
                        (4, SV.v (Value.int IntKind.i64 (IntKind.wrap IntKind.i64 (p4_i + (1 : Int)))))]
                      w') ∧
  (decide (p4_i < (↑p0_l_n : Int)) = false → R (Ending.returned (Value.int IntKind.u64 p3_m)) w)) := by kernel_rfl
/-! davit/mask.one -/
def M24 : Mt := { N := 11, keep := [(0, [0]), (1, [0, 8]), (2, [2]), (3, [2])], ords := [], bk := [], cuts := [], lk := [] }
noncomputable def c24 : Code := bodyOf Try.f24
theorem b24 : Try.f24.body = some c24 := by kernel_rfl
theorem n24 : Try.f24.ntmps = M24.N := by kernel_rfl
theorem u24 {p0_cpu : Int} {w : World} {R : Ending → World → Prop} (h : den Try.prog M24 c24 (argE 0 [(Value.int IntKind.i64 p0_cpu)]) w (retK Try.prog Try.f24.results.toList R)) : Calls Try.prog 24 #[(Value.int IntKind.i64 p0_cpu)] w R := calls_den okProg Try.func24 b24 n24 (Nat.le_of_ble_eq_true rfl) h
theorem t24 (p0_cpu : Int) (w : World) (R : Ending → World → Prop) : den Try.prog M24 c24 (argE 0 [(Value.int IntKind.i64 p0_cpu)]) w (retK Try.prog Try.f24.results.toList R) =
((decide (p0_cpu < (0 : Int)) = false →
    (decide (p0_cpu ≥ (64 : Int)) = true → R (Ending.returned (Value.int IntKind.u64 0)) w) ∧
      (decide (p0_cpu ≥ (64 : Int)) = false →
        (0 : Int) ≤ p0_cpu ∧ R (Ending.returned (Value.int IntKind.u64 (shlOp IntKind.u64 (1 : Int) p0_cpu))) w)) ∧
  (decide (p0_cpu < (0 : Int)) = true → R (Ending.returned (Value.int IntKind.u64 0)) w)) := by kernel_rfl
/-! davit/davitref01.With -/
def M25 : Mt := { N := 22, keep := [(0, [0, 1]), (1, [0, 1, 15]), (2, [4]), (3, [4])], ords := [], bk := [], cuts := [], lk := [] }
noncomputable def c25 : Code := bodyOf Try.f25
theorem b25 : Try.f25.body = some c25 := by kernel_rfl
theorem n25 : Try.f25.ntmps = M25.N := by kernel_rfl
theorem u25 {p0_m : Int} {p1_cpu : Int} {w : World} {R : Ending → World → Prop} (h : den Try.prog M25 c25 (argE 0 [(Value.int IntKind.u64 p0_m), (Value.int IntKind.i64 p1_cpu)]) w (retK Try.prog Try.f25.results.toList R)) : Calls Try.prog 25 #[(Value.int IntKind.u64 p0_m), (Value.int IntKind.i64 p1_cpu)] w R := calls_den okProg Try.func25 b25 n25 (Nat.le_of_ble_eq_true rfl) h
theorem t25 (p0_m : Int) (p1_cpu : Int) (w : World) (R : Ending → World → Prop) : den Try.prog M25 c25 (argE 0 [(Value.int IntKind.u64 p0_m), (Value.int IntKind.i64 p1_cpu)]) w (retK Try.prog Try.f25.results.toList R) =
((decide (p1_cpu < (0 : Int)) = false →
    (decide (p1_cpu > (63 : Int)) = false →
        Call Try.prog 26 [Value.int IntKind.u64 p0_m, Value.int IntKind.i64 p1_cpu] w fun e w' =>
          ∃ b,
            e = Ending.returned (Value.bool b) ∧
              (b = true → R (Ending.returned (Value.int IntKind.u64 p0_m)) w') ∧
                (b = false →
                  (0 : Int) ≤ IntKind.wrap IntKind.u64 p1_cpu ∧
                    R
                      (Ending.returned
                        (Value.int IntKind.u64
                          (IntKind.wrap IntKind.u64
                            (p0_m + shlOp IntKind.u64 (1 : Int) (IntKind.wrap IntKind.u64 p1_cpu)))))
                      w')) ∧
      (decide (p1_cpu > (63 : Int)) = true → R (Ending.returned (Value.int IntKind.u64 p0_m)) w)) ∧
  (decide (p1_cpu < (0 : Int)) = true → R (Ending.returned (Value.int IntKind.u64 p0_m)) w)) := by kernel_rfl
/-! davit/davitref01.Has -/
def M26 : Mt := { N := 17, keep := [(0, [0, 1]), (1, [0, 1, 10]), (2, [4]), (3, [4])], ords := [], bk := [], cuts := [], lk := [] }
noncomputable def c26 : Code := bodyOf Try.f26
theorem b26 : Try.f26.body = some c26 := by kernel_rfl
theorem n26 : Try.f26.ntmps = M26.N := by kernel_rfl
theorem u26 {p0_m : Int} {p1_cpu : Int} {w : World} {R : Ending → World → Prop} (h : den Try.prog M26 c26 (argE 0 [(Value.int IntKind.u64 p0_m), (Value.int IntKind.i64 p1_cpu)]) w (retK Try.prog Try.f26.results.toList R)) : Calls Try.prog 26 #[(Value.int IntKind.u64 p0_m), (Value.int IntKind.i64 p1_cpu)] w R := calls_den okProg Try.func26 b26 n26 (Nat.le_of_ble_eq_true rfl) h
theorem t26 (p0_m : Int) (p1_cpu : Int) (w : World) (R : Ending → World → Prop) : den Try.prog M26 c26 (argE 0 [(Value.int IntKind.u64 p0_m), (Value.int IntKind.i64 p1_cpu)]) w (retK Try.prog Try.f26.results.toList R) =
((decide (p1_cpu < (0 : Int)) = false →
    (decide (p1_cpu > (63 : Int)) = true → R (Ending.returned (Value.bool false)) w) ∧
      (decide (p1_cpu > (63 : Int)) = false →
        (0 : Int) ≤ IntKind.wrap IntKind.u64 p1_cpu ∧
          (2 : Int) ≠ (0 : Int) ∧
            R
              (Ending.returned
                (Value.bool
                  (Int.tmod (shrOp IntKind.u64 p0_m (IntKind.wrap IntKind.u64 p1_cpu)) (2 : Int) == (1 : Int))))
              w)) ∧
  (decide (p1_cpu < (0 : Int)) = true → R (Ending.returned (Value.bool false)) w)) := by kernel_rfl
end Go.Dav
