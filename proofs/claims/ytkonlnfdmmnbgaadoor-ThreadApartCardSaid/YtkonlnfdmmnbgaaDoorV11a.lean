/- What functions of the program come to. -/
import Derived.Test.YtkonlnfdmmnbgaaDoorPrg11
namespace Go.Dav
open Go.Proofs
/-! davit/davitlaw11.ThreadPlays -/
def M3 : Mt := { N := 115, keep := [(0, [0, 1]), (1, [0, 1, 5, 6]), (2, [1, 5, 6, 7, 8]), (3, [1, 5, 7, 32]), (4, [4]), (5, [1, 5, 7, 34]), (6, [4]), (7, [1, 5, 7, 9]), (8, [1, 5, 7, 9, 43]), (9, [1, 5, 7, 9]), (10, [1, 5, 7, 9, 61]), (11, [4]), (12, [1, 5, 7, 9, 10, 11]), (13, [1, 5, 7, 9, 10, 11, 12]), (14, [1, 5, 7, 9, 113]), (15, [4]), (16, [4])], ords := [(14, [0, 1, 2, 3, 4, 5, 6, 7, 8, 9, 10, 11, 12, 13, 14, 15, 16, 17, 18, 19, 20, 21, 22, 23, 24, 25, 26, 27, 28, 29, 30, 31, 32, 33, 34])], bk := [(0, []), (1, [1, 5, 7, 9])], cuts := [(16, [])], lk := [(8, [1, 5, 7, 9])] }
noncomputable def c3 : Code := bodyOf Tryd.f3
noncomputable def c3_0 : Code := c3.sr.sr.sr.sr.sr.sr
noncomputable def c3_1 : Code := c3.sr.sr.sr.sr.sr.sl.sr.sl.sl
def e3_0  : Env := []
def e3_1 (p1_acts_a : Option Addr) (p1_acts_n : Nat) (p1_acts_c : Nat) (p5_t : Option Addr) (p7_r : Option Addr) (p9_i : Int) : Env := [(1, SV.v (Value.slice p1_acts_a p1_acts_n p1_acts_c)), (5, SV.v (Value.pointer p5_t)), (7, SV.v (Value.pointer p7_r)), (9, SV.v (Value.int IntKind.i64 p9_i))]
def k3_0 (R : Ending → World → Prop) : Cont := retK Tryd.prog Tryd.f3.results.toList R
def k3_1 (R : Ending → World → Prop) : Cont := blockK 0 [] (seqK (fun E w => cutB (findL M3.cuts (headReg c3_0)) Tryd.prog M3 c3_0 E w (retK Tryd.prog Tryd.f3.results.toList R) fun E => den Tryd.prog M3 c3_0 E w (retK Tryd.prog Tryd.f3.results.toList R)) (retK Tryd.prog Tryd.f3.results.toList R))
theorem b3 : Tryd.f3.body = some c3 := by kernel_rfl
theorem n3 : Tryd.f3.ntmps = M3.N := by kernel_rfl
theorem u3 {p0_cpus : Int} {p1_acts_a : Option Addr} {p1_acts_n : Nat} {p1_acts_c : Nat} {w : World} {R : Ending → World → Prop} (h : den Tryd.prog M3 c3 (argE 0 [(Value.int IntKind.i64 p0_cpus), (Value.slice p1_acts_a p1_acts_n p1_acts_c)]) w (retK Tryd.prog Tryd.f3.results.toList R)) : Calls Tryd.prog 3 #[(Value.int IntKind.i64 p0_cpus), (Value.slice p1_acts_a p1_acts_n p1_acts_c)] w R := calls_den okProg Tryd.func3 b3 n3 (Nat.le_of_ble_eq_true rfl) h
theorem t3 (p0_cpus : Int) (p1_acts_a : Option Addr) (p1_acts_n : Nat) (p1_acts_c : Nat) (w : World) (R : Ending → World → Prop) : den Tryd.prog M3 c3 (argE 0 [(Value.int IntKind.i64 p0_cpus), (Value.slice p1_acts_a p1_acts_n p1_acts_c)]) w (retK Tryd.prog Tryd.f3.results.toList R) =
(Call Tryd.prog 6 [Value.int IntKind.i64 p0_cpus] w fun e w' =>
  ∃ p n,
    e = Ending.returned (Value.tuple #[Value.pointer p, Value.int IntKind.i64 n]) ∧
      Call Tryd.prog 7 [Value.int IntKind.i64 p0_cpus] w' fun e w' =>
        ∃ p_1 n_1,
          e = Ending.returned (Value.tuple #[Value.pointer p_1, Value.int IntKind.i64 n_1]) ∧
            ((n != n_1) = false →
                ((!Option.isNone p == Option.isNone p_1) = true → R (Ending.returned (Value.bool false)) w') ∧
                  ((!Option.isNone p == Option.isNone p_1) = false →
                    (Option.isNone p_1 = true →
                        Call Tryd.prog 8 [] w' fun e w' =>
                          ∃ b, e = Ending.returned (Value.bool b) ∧ R (Ending.returned (Value.bool b)) w') ∧
                      (Option.isNone p_1 = false →
                        Cut
                          (WP Tryd.prog 115 (Code.loop c3_1)
                            (e3_1 p1_acts_a p1_acts_n p1_acts_c p p_1 (0 : Int)) w' (k3_1 R))))) ∧
              ((n != n_1) = true → R (Ending.returned (Value.bool false)) w')) := by kernel_rfl
theorem t3_0  (w : World) (R : Ending → World → Prop) : den Tryd.prog M3 c3_0 (e3_0 ) w (k3_0 R) =
(Call Tryd.prog 8 [] w fun e w' =>
  ∃ b, e = Ending.returned (Value.bool b) ∧ R (Ending.returned (Value.bool b)) w') := by kernel_rfl
theorem t3_1 (p1_acts_a : Option Addr) (p1_acts_n : Nat) (p1_acts_c : Nat) (p5_t : Option Addr) (p7_r : Option Addr) (p9_i : Int) (w : World) (B3_1 : Env → World → Prop) (R : Ending → World → Prop) : den Tryd.prog M3 c3_1 (e3_1 p1_acts_a p1_acts_n p1_acts_c p5_t p7_r p9_i) w (loopK B3_1 (k3_1 R)) =
((decide (p9_i < (↑p1_acts_n : Int)) = true →
    (decide (p9_i < (150 : Int)) = true →
        ((0 : Int) ≤ p9_i ∧ p9_i < (↑p1_acts_n : Int)) ∧
          ∃ a,
            p1_acts_a = some a ∧
              ∃ n,
                World.cell? w (Addr.add (Addr.add a (Int.toNat p9_i * 6)) 0) =
                    some (Value.int IntKind.i64 n) ∧
                  ∃ n_1,
                    World.cell? w (Addr.add (Addr.add a (Int.toNat p9_i * 6)) 1) =
                        some (Value.int IntKind.i64 n_1) ∧
                      ∃ n_2,
                        World.cell? w (Addr.add (Addr.add a (Int.toNat p9_i * 6)) 2) =
                            some (Value.int IntKind.i64 n_2) ∧
                          ∃ n_3,
                            World.cell? w (Addr.add (Addr.add a (Int.toNat p9_i * 6)) 3) =
                                some (Value.int IntKind.u64 n_3) ∧
                              ∃ n_4,
                                World.cell? w (Addr.add (Addr.add a (Int.toNat p9_i * 6)) 4) =
                                    some (Value.int IntKind.i64 n_4) ∧
                                  ∃ b,
                                    World.cell? w (Addr.add (Addr.add a (Int.toNat p9_i * 6)) 5) =
                                        some (Value.bool b) ∧
                                      Call Tryd.prog 9
                                        [Value.pointer p5_t, Value.pointer p7_r,
                                          Value.agg
                                            #[Value.int IntKind.i64 n, Value.int IntKind.i64 n_1,
                                              Value.int IntKind.i64 n_2, Value.int IntKind.u64 n_3,
                                              Value.int IntKind.i64 n_4, Value.bool b]]
                                        w fun e w' =>
                                        ∃ b,
                                          e = Ending.returned (Value.bool b) ∧
                                            ((!b) = false →
                                                Call Tryd.prog 11 [Value.pointer p5_t] w' fun e w' =>
                                                  ∃ p n c,
                                                    e = Ending.returned (Value.slice p n c) ∧
                                                      Call Tryd.prog 12 [Value.pointer p7_r] w' fun e w' =>
                                                        ∃ p_1 n_5 c_1,
                                                          e = Ending.returned (Value.slice p_1 n_5 c_1) ∧
                                                            Call Tryd.prog 10
                                                              [Value.slice p n c, Value.slice p_1 n_5 c_1] w'
                                                              fun e w' =>
                                                              ∃ b,
                                                                e = Ending.returned (Value.bool b) ∧
                                                                  ((!b) = true →
                                                                      R (Ending.returned (Value.bool false)) w') ∧
                                                                    ((!b) = false →
                                                                      ((0 : Int) ≤ p9_i ∧
                                                                          p9_i < (↑p1_acts_n : Int)) ∧
                                                                        ∃ a,
                                                                          p1_acts_a = some a ∧
                                                                            ∃ n,
                                                                              World.cell? w'
                                                                                    (Addr.add
                                                                                      (Addr.add a
                                                                                        (Int.toNat p9_i * 6))
                                                                                      1) =
                                                                                  some (Value.int IntKind.i64 n) ∧
                                                                                Call Tryd.prog 13
                                                                                  [Value.pointer p5_t,
                                                                                    Value.int IntKind.i64 n]
                                                                                  w' fun e w' =>
                                                                                  ∃ n n_6 n_7 b b_1 n_8 n_9,
                                                                                    e =
                                                                                        Ending.returned
                                                                                          (Value.tuple
                                                                                            #[Value.agg
                                                                                                #[Value.int IntKind.i64
                                                                                                    n,
                                                                                                  Value.int IntKind.u64
                                                                                                    n_6,
                                                                                                  Value.int IntKind.i64
                                                                                                    n_7,
                                                                                                  Value.bool b,
                                                                                                  Value.bool b_1,
                                                                                                  Value.int IntKind.i64
                                                                                                    n_8],
                                                                                              Value.int IntKind.i64
                                                                                                n_9]) ∧
                                                                                      New w'
                                                                                        [Value.int IntKind.i64
                                                                                            (0 : Int),
                                                                                          Value.int IntKind.u64
                                                                                            (0 : Int),
                                                                                          Value.int IntKind.i64
                                                                                            (0 : Int),
                                                                                          Value.bool false,
                                                                                          Value.bool false,
                                                                                          Value.int IntKind.i64
                                                                                            (0 : Int)]
                                                                                        40 fun p w' =>
                                                                                        Wr w' p
                                                                                          [Value.int IntKind.i64 n,
                                                                                            Value.int IntKind.u64 n_6,
                                                                                            Value.int IntKind.i64 n_7,
                                                                                            Value.bool b,
                                                                                            Value.bool b_1,
                                                                                            Value.int IntKind.i64 n_8]
                                                                                          fun w' =>
                                                                                          ((0 : Int) ≤ p9_i ∧
                                                                                              p9_i <
                                                                                                (↑p1_acts_n : Int)) ∧
                                                                                            ∃ a,
                                                                                              p1_acts_a = some a ∧
                                                                                                ∃ n,
                                                                                                  World.cell? w'
                                                                                                        (Addr.add
                                                                                                          (Addr.add a
                                                                                                            (Int.toNat
                                                                                                                p9_i *
                                                                                                              6))
                                                                                                          1) =
                                                                                                      some
                                                                                                        (Value.int
                                                                                                          IntKind.i64
                                                                                                          n) ∧
                                                                                                    Call Tryd.prog
                                                                                                      14
                                                                                                      [Value.pointer
                                                                                                          p7_r,
                                                                                                        Value.int
                                                                                                          IntKind.i64 n]
                                                                                                      w' fun e w' =>
                                                                                                      ∃ n,
                                                                                                        e =
                                                                                                            Ending.returned
                                                                                                              (Value.int
                                                                                                                IntKind.i64
                                                                                                                n) ∧
                                                                                                          ∀
                                                                                                            (w'_1 :
                                                                                                              World),
                                                                                                            World.heap
                                                                                                                  w'_1 =
                                                                                                                World.heap
                                                                                                                  w' →
                                                                                                              World.os
                                                                                                                    w'_1 =
                                                                                                                  World.os
                                                                                                                    w' →
                                                                                                                World.tape
                                                                                                                      w'_1 =
                                                                                                                    World.tape
                                                                                                                      w' →
                                                                                                                  World.output
                                                                                                                        w'_1 =
                                                                                                                      World.output
                                                                                                                        w' →
                                                                                                                    ((!(n_9 ==
                                                                                                                                (0 :
                                                                                                                                  Int)) ==
                                                                                                                              decide
                                                                                                                                (n ≥
                                                                                                                                  (0 :
                                                                                                                                    Int))) =
                                                                                                                          false →
                                                                                                                        (decide
                                                                                                                                (n <
                                                                                                                                  (0 :
                                                                                                                                    Int)) =
                                                                                                                              true →
                                                                                                                            ((n_9 !=
                                                                                                                                    (4 :
                                                                                                                                      Int)) =
                                                                                                                                  false →
                                                                                                                                ∃
                                                                                                                                  n_10,
                                                                                                                                  World.cell?
                                                                                                                                        w'_1
                                                                                                                                        (Addr.add
                                                                                                                                          p
                                                                                                                                          0) =
                                                                                                                                      some
                                                                                                                                        (Value.int
                                                                                                                                          IntKind.i64
                                                                                                                                          n_10) ∧
                                                                                                                                    ∃
                                                                                                                                      n_11,
                                                                                                                                      World.cell?
                                                                                                                                            w'_1
                                                                                                                                            (Addr.add
                                                                                                                                              p
                                                                                                                                              1) =
                                                                                                                                          some
                                                                                                                                            (Value.int
                                                                                                                                              IntKind.u64
                                                                                                                                              n_11) ∧
                                                                                                                                        ∃
                                                                                                                                          n_12,
                                                                                                                                          World.cell?
                                                                                                                                                w'_1
                                                                                                                                                (Addr.add
                                                                                                                                                  p
                                                                                                                                                  2) =
                                                                                                                                              some
                                                                                                                                                (Value.int
                                                                                                                                                  IntKind.i64
                                                                                                                                                  n_12) ∧
                                                                                                                                            ∃
                                                                                                                                              b,
                                                                                                                                              World.cell?
                                                                                                                                                    w'_1
                                                                                                                                                    (Addr.add
                                                                                                                                                      p
                                                                                                                                                      3) =
                                                                                                                                                  some
                                                                                                                                                    (Value.bool
                                                                                                                                                      b) ∧
                                                                                                                                                ∃
                                                                                                                                                  b_2,
                                                                                                                                                  World.cell?
                                                                                                                                                        w'_1
                                                                                                                                                        (Addr.add
                                                                                                                                                          p
                                                                                                                                                          4) =
                                                                                                                                                      some
                                                                                                                                                        (Value.bool
                                                                                                                                                          b_2) ∧
                                                                                                                                                    ∃
                                                                                                                                                      n_13,
                                                                                                                                                      World.cell?
                                                                                                                                                            w'_1
                                                                                                                                                            (Addr.add
                                                                                                                                                              p
                                                                                                                                                              5) =
                                                                                                                                                          some
                                                                                                                                                            (Value.int
                                                                                                                                                              IntKind.i64
                                                                                                                                                              n_13) ∧
                                                                                                                                                        Call
                                                                                                                                                          Tryd.prog
                                                                                                                                                          15
                                                                                                                                                          [Value.agg
                                                                                                                                                              #[Value.int
                                                                                                                                                                  IntKind.i64
                                                                                                                                                                  n_10,
                                                                                                                                                                Value.int
                                                                                                                                                                  IntKind.u64
                                                                                                                                                                  n_11,
                                                                                                                                                                Value.int
                                                                                                                                                                  IntKind.i64
                                                                                                                                                                  n_12,
                                                                                                                                                                Value.bool
                                                                                                                                                                  b,
                                                                                                                                                                Value.bool
                                                                                                                                                                  b_2,
                                                                                                                                                                Value.int
                                                                                                                                                                  IntKind.i64
                                                                                                                                                                  n_13],
                                                                                                                                                            Value.agg
                                                                                                                                                              #[Value.int
                                                                                                                                                                  IntKind.i64
                                                                                                                                                                  (0 :
                                                                                                                                                                    Int),
                                                                                                                                                                Value.int
                                                                                                                                                                  IntKind.i64
                                                                                                                                                                  (0 :
                                                                                                                                                                    Int),
                                                                                                                                                                Value.int
                                                                                                                                                                  IntKind.u64
                                                                                                                                                                  (0 :
                                                                                                                                                                    Int),
                                                                                                                                                                Value.int
                                                                                                                                                                  IntKind.i64
                                                                                                                                                                  (0 :
                                                                                                                                                                    Int),
                                                                                                                                                                Value.bool
                                                                                                                                                                  false,
                                                                                                                                                                Value.bool
                                                                                                                                                                  false,
                                                                                                                                                                Value.int
                                                                                                                                                                  IntKind.i64
                                                                                                                                                                  (0 :
                                                                                                                                                                    Int)]]
                                                                                                                                                          w'_1
                                                                                                                                                          fun
                                                                                                                                                            e
                                                                                                                                                            w' =>
                                                                                                                                                          ∃
                                                                                                                                                            b,
                                                                                                                                                            e =
                                                                                                                                                                Ending.returned
                                                                                                                                                                  (Value.bool
                                                                                                                                                                    b) ∧
                                                                                                                                                              ((!b) =
                                                                                                                                                                    false →
                                                                                                                                                                  (decide
                                                                                                                                                                          (n ≥
                                                                                                                                                                            (0 :
                                                                                                                                                                              Int)) =
                                                                                                                                                                        true →
                                                                                                                                                                      ∃
                                                                                                                                                                        n_14,
                                                                                                                                                                        World.cell?
                                                                                                                                                                              w'
                                                                                                                                                                              (Addr.add
                                                                                                                                                                                p
                                                                                                                                                                                0) =
                                                                                                                                                                            some
                                                                                                                                                                              (Value.int
                                                                                                                                                                                IntKind.i64
                                                                                                                                                                                n_14) ∧
                                                                                                                                                                          ∃
                                                                                                                                                                            n_15,
                                                                                                                                                                            World.cell?
                                                                                                                                                                                  w'
                                                                                                                                                                                  (Addr.add
                                                                                                                                                                                    p
                                                                                                                                                                                    1) =
                                                                                                                                                                                some
                                                                                                                                                                                  (Value.int
                                                                                                                                                                                    IntKind.u64
                                                                                                                                                                                    n_15) ∧
                                                                                                                                                                              ∃
                                                                                                                                                                                n_16,
                                                                                                                                                                                World.cell?
                                                                                                                                                                                      w'
                                                                                                                                                                                      (Addr.add
                                                                                                                                                                                        p
                                                                                                                                                                                        2) =
                                                                                                                                                                                    some
                                                                                                                                                                                      (Value.int
                                                                                                                                                                                        IntKind.i64
                                                                                                                                                                                        n_16) ∧
                                                                                                                                                                                  ∃
                                                                                                                                                                                    b,
                                                                                                                                                                                    World.cell?
                                                                                                                                                                                          w'
                                                                                                                                                                                          (Addr.add
                                                                                                                                                                                            p
                                                                                                                                                                                            3) =
                                                                                                                                                                                        some
                                                                                                                                                                                          (Value.bool
                                                                                                                                                                                            b) ∧
                                                                                                                                                                                      ∃
                                                                                                                                                                                        b_3,
                                                                                                                                                                                        World.cell?
                                                                                                                                                                                              w'
                                                                                                                                                                                              (Addr.add
                                                                                                                                                                                                p
                                                                                                                                                                                                4) =
                                                                                                                                                                                            some
                                                                                                                                                                                              (Value.bool
                                                                                                                                                                                                b_3) ∧
                                                                                                                                                                                          ∃
                                                                                                                                                                                            n_17,
                                                                                                                                                                                            World.cell?
                                                                                                                                                                                                  w'
                                                                                                                                                                                                  (Addr.add
                                                                                                                                                                                                    p
                                                                                                                                                                                                    5) =
                                                                                                                                                                                                some
                                                                                                                                                                                                  (Value.int
                                                                                                                                                                                                    IntKind.i64
                                                                                                                                                                                                    n_17) ∧
                                                                                                                                                                                              ∃
                                                                                                                                                                                                a,
                                                                                                                                                                                                p7_r =
                                                                                                                                                                                                    some
                                                                                                                                                                                                      a ∧
                                                                                                                                                                                                  ∃
                                                                                                                                                                                                    p
                                                                                                                                                                                                    n_18
                                                                                                                                                                                                    c,
                                                                                                                                                                                                    World.cell?
                                                                                                                                                                                                          w'
                                                                                                                                                                                                          (Addr.add
                                                                                                                                                                                                            a
                                                                                                                                                                                                            1) =
                                                                                                                                                                                                        some
                                                                                                                                                                                                          (Value.slice
                                                                                                                                                                                                            p
                                                                                                                                                                                                            n_18
                                                                                                                                                                                                            c) ∧
                                                                                                                                                                                                      ((0 :
                                                                                                                                                                                                              Int) ≤
                                                                                                                                                                                                            n ∧
                                                                                                                                                                                                          n <
                                                                                                                                                                                                            (↑n_18 :
                                                                                                                                                                                                              Int)) ∧
                                                                                                                                                                                                        ∃
                                                                                                                                                                                                          a,
                                                                                                                                                                                                          p =
                                                                                                                                                                                                              some
                                                                                                                                                                                                                a ∧
                                                                                                                                                                                                            ∃
                                                                                                                                                                                                              n_19,
                                                                                                                                                                                                              World.cell?
                                                                                                                                                                                                                    w'
                                                                                                                                                                                                                    (Addr.add
                                                                                                                                                                                                                      (Addr.add
                                                                                                                                                                                                                        a
                                                                                                                                                                                                                        (Int.toNat
                                                                                                                                                                                                                            n *
                                                                                                                                                                                                                          7))
                                                                                                                                                                                                                      0) =
                                                                                                                                                                                                                  some
                                                                                                                                                                                                                    (Value.int
                                                                                                                                                                                                                      IntKind.i64
                                                                                                                                                                                                                      n_19) ∧
                                                                                                                                                                                                                ∃
                                                                                                                                                                                                                  n_20,
                                                                                                                                                                                                                  World.cell?
                                                                                                                                                                                                                        w'
                                                                                                                                                                                                                        (Addr.add
                                                                                                                                                                                                                          (Addr.add
                                                                                                                                                                                                                            a
                                                                                                                                                                                                                            (Int.toNat
                                                                                                                                                                                                                                n *
                                                                                                                                                                                                                              7))
                                                                                                                                                                                                                          1) =
                                                                                                                                                                                                                      some
                                                                                                                                                                                                                        (Value.int
                                                                                                                                                                                                                          IntKind.i64
                                                                                                                                                                                                                          n_20) ∧
                                                                                                                                                                                                                    ∃
                                                                                                                                                                                                                      n_21,
                                                                                                                                                                                                                      World.cell?
                                                                                                                                                                                                                            w'
                                                                                                                                                                                                                            (Addr.add
                                                                                                                                                                                                                              (Addr.add
                                                                                                                                                                                                                                a
                                                                                                                                                                                                                                (Int.toNat
                                                                                                                                                                                                                                    n *
                                                                                                                                                                                                                                  7))
                                                                                                                                                                                                                              2) =
                                                                                                                                                                                                                          some
                                                                                                                                                                                                                            (Value.int
                                                                                                                                                                                                                              IntKind.u64
                                                                                                                                                                                                                              n_21) ∧
                                                                                                                                                                                                                        ∃
                                                                                                                                                                                                                          n_22,
                                                                                                                                                                                                                          World.cell?
                                                                                                                                                                                                                                w'
                                                                                                                                                                                                                                (Addr.add
                                                                                                                                                                                                                                  (Addr.add
                                                                                                                                                                                                                                    a
                                                                                                                                                                                                                                    (Int.toNat
                                                                                                                                                                                                                                        n *
                                                                                                                                                                                                                                      7))
                                                                                                                                                                                                                                  3) =
                                                                                                                                                                                                                              some
                                                                                                                                                                                                                                (Value.int
                                                                                                                                                                                                                                  IntKind.i64
                                                                                                                                                                                                                                  n_22) ∧
                                                                                                                                                                                                                            ∃
                                                                                                                                                                                                                              b_4,
                                                                                                                                                                                                                              World.cell?
                                                                                                                                                                                                                                    w'
                                                                                                                                                                                                                                    (Addr.add
                                                                                                                                                                                                                                      (Addr.add
                                                                                                                                                                                                                                        a
                                                                                                                                                                                                                                        (Int.toNat
                                                                                                                                                                                                                                            n *
                                                                                                                                                                                                                                          7))
                                                                                                                                                                                                                                      4) =
                                                                                                                                                                                                                                  some
                                                                                                                                                                                                                                    (Value.bool
                                                                                                                                                                                                                                      b_4) ∧
                                                                                                                                                                                                                                ∃
                                                                                                                                                                                                                                  b_5,
                                                                                                                                                                                                                                  World.cell?
                                                                                                                                                                                                                                        w'
                                                                                                                                                                                                                                        (Addr.add
                                                                                                                                                                                                                                          (Addr.add
                                                                                                                                                                                                                                            a
                                                                                                                                                                                                                                            (Int.toNat
                                                                                                                                                                                                                                                n *
                                                                                                                                                                                                                                              7))
                                                                                                                                                                                                                                          5) =
                                                                                                                                                                                                                                      some
                                                                                                                                                                                                                                        (Value.bool
                                                                                                                                                                                                                                          b_5) ∧
                                                                                                                                                                                                                                    ∃
                                                                                                                                                                                                                                      n_23,
                                                                                                                                                                                                                                      World.cell?
                                                                                                                                                                                                                                            w'
                                                                                                                                                                                                                                            (Addr.add
                                                                                                                                                                                                                                              (Addr.add
                                                                                                                                                                                                                                                a
                                                                                                                                                                                                                                                (Int.toNat
                                                                                                                                                                                                                                                    n *
                                                                                                                                                                                                                                                  7))
                                                                                                                                                                                                                                              6) =
                                                                                                                                                                                                                                          some
                                                                                                                                                                                                                                            (Value.int
                                                                                                                                                                                                                                              IntKind.i64
                                                                                                                                                                                                                                              n_23) ∧
                                                                                                                                                                                                                                        Call
                                                                                                                                                                                                                                          Tryd.prog
                                                                                                                                                                                                                                          15
                                                                                                                                                                                                                                          [Value.agg
                                                                                                                                                                                                                                              #[Value.int
                                                                                                                                                                                                                                                  IntKind.i64
                                                                                                                                                                                                                                                  n_14,
                                                                                                                                                                                                                                                Value.int
                                                                                                                                                                                                                                                  IntKind.u64
                                                                                                                                                                                                                                                  n_15,
                                                                                                                                                                                                                                                Value.int
                                                                                                                                                                                                                                                  IntKind.i64
                                                                                                                                                                                                                                                  n_16,
                                                                                                                                                                                                                                                Value.bool
                                                                                                                                                                                                                                                  b,
                                                                                                                                                                                                                                                Value.bool
                                                                                                                                                                                                                                                  b_3,
                                                                                                                                                                                                                                                Value.int
                                                                                                                                                                                                                                                  IntKind.i64
                                                                                                                                                                                                                                                  n_17],
                                                                                                                                                                                                                                            Value.agg
                                                                                                                                                                                                                                              #[Value.int
                                                                                                                                                                                                                                                  IntKind.i64
                                                                                                                                                                                                                                                  n_19,
                                                                                                                                                                                                                                                Value.int
                                                                                                                                                                                                                                                  IntKind.i64
                                                                                                                                                                                                                                                  n_20,
                                                                                                                                                                                                                                                Value.int
                                                                                                                                                                                                                                                  IntKind.u64
                                                                                                                                                                                                                                                  n_21,
                                                                                                                                                                                                                                                Value.int
                                                                                                                                                                                                                                                  IntKind.i64
                                                                                                                                                                                                                                                  n_22,
                                                                                                                                                                                                                                                Value.bool
                                                                                                                                                                                                                                                  b_4,
                                                                                                                                                                                                                                                Value.bool
                                                                                                                                                                                                                                                  b_5,
                                                                                                                                                                                                                                                Value.int
                                                                                                                                                                                                                                                  IntKind.i64
                                                                                                                                                                                                                                                  n_23]]
                                                                                                                                                                                                                                          w'
                                                                                                                                                                                                                                          fun
                                                                                                                                                                                                                                            e
                                                                                                                                                                                                                                            w' =>
                                                                                                                                                                                                                                          ∃
                                                                                                                                                                                                                                            b,
                                                                                                                                                                                                                                            e =
                                                                                                                                                                                                                                                Ending.returned
                                                                                                                                                                                                                                                  (Value.bool
                                                                                                                                                                                                                                                    b) ∧
                                                                                                                                                                                                                                              ((!b) =
                                                                                                                                                                                                                                                    true →
                                                                                                                                                                                                                                                  R
                                                                                                                                                                                                                                                    (Ending.returned
                                                                                                                                                                                                                                                      (Value.bool
                                                                                                                                                                                                                                                        false))
                                                                                                                                                                                                                                                    w') ∧
                                                                                                                                                                                                                                                ((!b) =
                                                                                                                                                                                                                                                    false →
                                                                                                                                                                                                                                                  B3_1
                                                                                                                                                                                                                                                    [(1,
                                                                                                                                                                                                                                                        SV.v
                                                                                                                                                                                                                                                          (Value.slice
                                                                                                                                                                                                                                                            p1_acts_a
                                                                                                                                                                                                                                                            p1_acts_n
                                                                                                                                                                                                                                                            p1_acts_c)),
                                                                                                                                                                                                                                                      (5,
                                                                                                                                                                                                                                                        SV.v
                                                                                                                                                                                                                                                          (Value.pointer
                                                                                                                                                                                                                                                            p5_t)),
                                                                                                                                                                                                                                                      (7,
                                                                                                                                                                                                                                                        SV.v
                                                                                                                                                                                                                                                          (Value.pointer
                                                                                                                                                                                                                                                            p7_r)),
                                                                                                                                                                                                                                                      (9,
                                                                                                                                                                                                                                                        SV.v
                                                                                                                                                                                                                                                          (Value.int
                                                                                                                                                                                                                                                            IntKind.i64
                                                                                                                                                                                                                                                            (IntKind.wrap
                                                                                                                                                                                                                                                              IntKind.i64
                                                                                                                                                                                                                                                              (p9_i +
                                                                                                                                                                                                                                                                (1 :
                                                                                                                                                                                                                                                                  Int)))))]
                                                                                                                                                                                                                                                    w')) ∧
                                                                                                                                                                    (decide
                                                                                                                                                                          (n ≥
                                                                                                                                                                            (0 :
                                                                                                                                                                              Int)) =
                                                                                                                                                                        false →
                                                                                                                                                                      B3_1
                                                                                                                                                                        [(1,
                                                                                                                                                                            SV.v
                                                                                                                                                                              (Value.slice
                                                                                                                                                                                p1_acts_a
                                                                                                                                                                                p1_acts_n
                                                                                                                                                                                p1_acts_c)),
                                                                                                                                                                          (5,
                                                                                                                                                                            SV.v
                                                                                                                                                                              (Value.pointer
                                                                                                                                                                                p5_t)),
                                                                                                                                                                          (7,
                                                                                                                                                                            SV.v
                                                                                                                                                                              (Value.pointer
                                                                                                                                                                                p7_r)),
                                                                                                                                                                          (9,
                                                                                                                                                                            SV.v
                                                                                                                                                                              (Value.int
                                                                                                                                                                                IntKind.i64
                                                                                                                                                                                (IntKind.wrap
                                                                                                                                                                                  IntKind.i64
                                                                                                                                                                                  (p9_i +
                                                                                                                                                                                    (1 :
                                                                                                                                                                                      Int)))))]
                                                                                                                                                                        w')) ∧
                                                                                                                                                                ((!b) =
                                                                                                                                                                    true →
                                                                                                                                                                  R
                                                                                                                                                                    (Ending.returned
                                                                                                                                                                      (Value.bool
                                                                                                                                                                        false))
                                                                                                                                                                    w')) ∧
                                                                                                                              ((n_9 !=
                                                                                                                                    (4 :
                                                                                                                                      Int)) =
                                                                                                                                  true →
                                                                                                                                R
                                                                                                                                  (Ending.returned
                                                                                                                                    (Value.bool
                                                                                                                                      false))
                                                                                                                                  w'_1)) ∧
                                                                                                                          (decide
                                                                                                                                (n <
                                                                                                                                  (0 :
                                                                                                                                    Int)) =
                                                                                                                              false →
                                                                                                                            (decide
                                                                                                                                    (n ≥
                                                                                                                                      (0 :
                                                                                                                                        Int)) =
                                                                                                                                  true →
                                                                                                                                ∃
                                                                                                                                  n_10,
                                                                                                                                  World.cell?
                                                                                                                                        w'_1
                                                                                                                                        (Addr.add
                                                                                                                                          p
                                                                                                                                          0) =
                                                                                                                                      some
                                                                                                                                        (Value.int
                                                                                                                                          IntKind.i64
                                                                                                                                          n_10) ∧
                                                                                                                                    ∃
                                                                                                                                      n_11,
                                                                                                                                      World.cell?
                                                                                                                                            w'_1
                                                                                                                                            (Addr.add
                                                                                                                                              p
                                                                                                                                              1) =
                                                                                                                                          some
                                                                                                                                            (Value.int
                                                                                                                                              IntKind.u64
                                                                                                                                              n_11) ∧
                                                                                                                                        ∃
                                                                                                                                          n_12,
                                                                                                                                          World.cell?
                                                                                                                                                w'_1
                                                                                                                                                (Addr.add
                                                                                                                                                  p
                                                                                                                                                  2) =
                                                                                                                                              some
                                                                                                                                                (Value.int
                                                                                                                                                  IntKind.i64
                                                                                                                                                  n_12) ∧
                                                                                                                                            ∃
                                                                                                                                              b,
                                                                                                                                              World.cell?
                                                                                                                                                    w'_1
                                                                                                                                                    (Addr.add
                                                                                                                                                      p
                                                                                                                                                      3) =
                                                                                                                                                  some
                                                                                                                                                    (Value.bool
                                                                                                                                                      b) ∧
                                                                                                                                                ∃
                                                                                                                                                  b_2,
                                                                                                                                                  World.cell?
                                                                                                                                                        w'_1
                                                                                                                                                        (Addr.add
                                                                                                                                                          p
                                                                                                                                                          4) =
                                                                                                                                                      some
                                                                                                                                                        (Value.bool
                                                                                                                                                          b_2) ∧
                                                                                                                                                    ∃
                                                                                                                                                      n_13,
                                                                                                                                                      World.cell?
                                                                                                                                                            w'_1
                                                                                                                                                            (Addr.add
                                                                                                                                                              p
                                                                                                                                                              5) =
                                                                                                                                                          some
                                                                                                                                                            (Value.int
                                                                                                                                                              IntKind.i64
                                                                                                                                                              n_13) ∧
                                                                                                                                                        ∃
                                                                                                                                                          a,
                                                                                                                                                          p7_r =
                                                                                                                                                              some
                                                                                                                                                                a ∧
                                                                                                                                                            ∃
                                                                                                                                                              p
                                                                                                                                                              n_14
                                                                                                                                                              c,
                                                                                                                                                              World.cell?
                                                                                                                                                                    w'_1
                                                                                                                                                                    (Addr.add
                                                                                                                                                                      a
                                                                                                                                                                      1) =
                                                                                                                                                                  some
                                                                                                                                                                    (Value.slice
                                                                                                                                                                      p
                                                                                                                                                                      n_14
                                                                                                                                                                      c) ∧
                                                                                                                                                                ((0 :
                                                                                                                                                                        Int) ≤
                                                                                                                                                                      n ∧
                                                                                                                                                                    n <
                                                                                                                                                                      (↑n_14 :
                                                                                                                                                                        Int)) ∧
                                                                                                                                                                  ∃
                                                                                                                                                                    a,
                                                                                                                                                                    p =
                                                                                                                                                                        some
                                                                                                                                                                          a ∧
                                                                                                                                                                      ∃
                                                                                                                                                                        n_15,
                                                                                                                                                                        World.cell?
                                                                                                                                                                              w'_1
                                                                                                                                                                              (Addr.add
                                                                                                                                                                                (Addr.add
                                                                                                                                                                                  a
                                                                                                                                                                                  (Int.toNat
                                                                                                                                                                                      n *
                                                                                                                                                                                    7))
                                                                                                                                                                                0) =
                                                                                                                                                                            some
                                                                                                                                                                              (Value.int
                                                                                                                                                                                IntKind.i64
                                                                                                                                                                                n_15) ∧
                                                                                                                                                                          ∃
                                                                                                                                                                            n_16,
                                                                                                                                                                            World.cell?
                                                                                                                                                                                  w'_1
                                                                                                                                                                                  (Addr.add
                                                                                                                                                                                    (Addr.add
                                                                                                                                                                                      a
                                                                                                                                                                                      (Int.toNat
                                                                                                                                                                                          n *
                                                                                                                                                                                        7))
                                                                                                                                                                                    1) =
                                                                                                                                                                                some
                                                                                                                                                                                  (Value.int
                                                                                                                                                                                    IntKind.i64
                                                                                                                                                                                    n_16) ∧
                                                                                                                                                                              ∃
                                                                                                                                                                                n_17,
                                                                                                                                                                                World.cell?
                                                                                                                                                                                      w'_1
                                                                                                                                                                                      (Addr.add
                                                                                                                                                                                        (Addr.add
                                                                                                                                                                                          a
                                                                                                                                                                                          (Int.toNat
                                                                                                                                                                                              n *
                                                                                                                                                                                            7))
                                                                                                                                                                                        2) =
                                                                                                                                                                                    some
                                                                                                                                                                                      (Value.int
                                                                                                                                                                                        IntKind.u64
                                                                                                                                                                                        n_17) ∧
                                                                                                                                                                                  ∃
                                                                                                                                                                                    n_18,
                                                                                                                                                                                    World.cell?
                                                                                                                                                                                          w'_1
                                                                                                                                                                                          (Addr.add
                                                                                                                                                                                            (Addr.add
                                                                                                                                                                                              a
                                                                                                                                                                                              (Int.toNat
                                                                                                                                                                                                  n *
                                                                                                                                                                                                7))
                                                                                                                                                                                            3) =
                                                                                                                                                                                        some
                                                                                                                                                                                          (Value.int
                                                                                                                                                                                            IntKind.i64
                                                                                                                                                                                            n_18) ∧
                                                                                                                                                                                      ∃
                                                                                                                                                                                        b_3,
                                                                                                                                                                                        World.cell?
                                                                                                                                                                                              w'_1
                                                                                                                                                                                              (Addr.add
                                                                                                                                                                                                (Addr.add
                                                                                                                                                                                                  a
                                                                                                                                                                                                  (Int.toNat
                                                                                                                                                                                                      n *
                                                                                                                                                                                                    7))
                                                                                                                                                                                                4) =
                                                                                                                                                                                            some
                                                                                                                                                                                              (Value.bool
                                                                                                                                                                                                b_3) ∧
                                                                                                                                                                                          ∃
                                                                                                                                                                                            b_4,
                                                                                                                                                                                            World.cell?
                                                                                                                                                                                                  w'_1
                                                                                                                                                                                                  (Addr.add
                                                                                                                                                                                                    (Addr.add
                                                                                                                                                                                                      a
                                                                                                                                                                                                      (Int.toNat
                                                                                                                                                                                                          n *
                                                                                                                                                                                                        7))
                                                                                                                                                                                                    5) =
                                                                                                                                                                                                some
                                                                                                                                                                                                  (Value.bool
                                                                                                                                                                                                    b_4) ∧
                                                                                                                                                                                              ∃
                                                                                                                                                                                                n_19,
                                                                                                                                                                                                World.cell?
                                                                                                                                                                                                      w'_1
                                                                                                                                                                                                      (Addr.add
                                                                                                                                                                                                        (Addr.add
                                                                                                                                                                                                          a
                                                                                                                                                                                                          (Int.toNat
                                                                                                                                                                                                              n *
                                                                                                                                                                                                            7))
                                                                                                                                                                                                        6) =
                                                                                                                                                                                                    some
                                                                                                                                                                                                      (Value.int
                                                                                                                                                                                                        IntKind.i64
                                                                                                                                                                                                        n_19) ∧
                                                                                                                                                                                                  Call
                                                                                                                                                                                                    Tryd.prog
                                                                                                                                                                                                    15
                                                                                                                                                                                                    [Value.agg
                                                                                                                                                                                                        #[Value.int
                                                                                                                                                                                                            IntKind.i64
                                                                                                                                                                                                            n_10,
                                                                                                                                                                                                          Value.int
                                                                                                                                                                                                            IntKind.u64
                                                                                                                                                                                                            n_11,
                                                                                                                                                                                                          Value.int
                                                                                                                                                                                                            IntKind.i64
                                                                                                                                                                                                            n_12,
                                                                                                                                                                                                          Value.bool
                                                                                                                                                                                                            b,
                                                                                                                                                                                                          Value.bool
                                                                                                                                                                                                            b_2,
                                                                                                                                                                                                          Value.int
                                                                                                                                                                                                            IntKind.i64
                                                                                                                                                                                                            n_13],
                                                                                                                                                                                                      Value.agg
                                                                                                                                                                                                        #[Value.int
                                                                                                                                                                                                            IntKind.i64
                                                                                                                                                                                                            n_15,
                                                                                                                                                                                                          Value.int
                                                                                                                                                                                                            IntKind.i64
                                                                                                                                                                                                            n_16,
                                                                                                                                                                                                          Value.int
                                                                                                                                                                                                            IntKind.u64
                                                                                                                                                                                                            n_17,
                                                                                                                                                                                                          Value.int
                                                                                                                                                                                                            IntKind.i64
                                                                                                                                                                                                            n_18,
                                                                                                                                                                                                          Value.bool
                                                                                                                                                                                                            b_3,
                                                                                                                                                                                                          Value.bool
                                                                                                                                                                                                            b_4,
                                                                                                                                                                                                          Value.int
                                                                                                                                                                                                            IntKind.i64
                                                                                                                                                                                                            n_19]]
                                                                                                                                                                                                    w'_1
                                                                                                                                                                                                    fun
                                                                                                                                                                                                      e
                                                                                                                                                                                                      w' =>
                                                                                                                                                                                                    ∃
                                                                                                                                                                                                      b,
                                                                                                                                                                                                      e =
                                                                                                                                                                                                          Ending.returned
                                                                                                                                                                                                            (Value.bool
                                                                                                                                                                                                              b) ∧
                                                                                                                                                                                                        ((!b) =
                                                                                                                                                                                                              true →
                                                                                                                                                                                                            R
                                                                                                                                                                                                              (Ending.returned
                                                                                                                                                                                                                (Value.bool
                                                                                                                                                                                                                  false))
                                                                                                                                                                                                              w') ∧
                                                                                                                                                                                                          ((!b) =
                                                                                                                                                                                                              false →
                                                                                                                                                                                                            B3_1
                                                                                                                                                                                                              [(1,
                                                                                                                                                                                                                  SV.v
                                                                                                                                                                                                                    (Value.slice
                                                                                                                                                                                                                      p1_acts_a
                                                                                                                                                                                                                      p1_acts_n
                                                                                                                                                                                                                      p1_acts_c)),
                                                                                                                                                                                                                (5,
                                                                                                                                                                                                                  SV.v
                                                                                                                                                                                                                    (Value.pointer
                                                                                                                                                                                                                      p5_t)),
                                                                                                                                                                                                                (7,
                                                                                                                                                                                                                  SV.v
                                                                                                                                                                                                                    (Value.pointer
                                                                                                                                                                                                                      p7_r)),
                                                                                                                                                                                                                (9,
                                                                                                                                                                                                                  SV.v
                                                                                                                                                                                                                    (Value.int
                                                                                                                                                                                                                      IntKind.i64
                                                                                                                                                                                                                      (IntKind.wrap
                                                                                                                                                                                                                        IntKind.i64
                                                                                                                                                                                                                        (p9_i +
                                                                                                                                                                                                                          (1 :
                                                                                                                                                                                                                            Int)))))]
                                                                                                                                                                                                              w')) ∧
                                                                                                                              (decide
                                                                                                                                    (n ≥
                                                                                                                                      (0 :
                                                                                                                                        Int)) =
                                                                                                                                  false →
                                                                                                                                B3_1
                                                                                                                                  [(1,
                                                                                                                                      SV.v
                                                                                                                                        (Value.slice
                                                                                                                                          p1_acts_a
                                                                                                                                          p1_acts_n
                                                                                                                                          p1_acts_c)),
                                                                                                                                    (5,
                                                                                                                                      SV.v
                                                                                                                                        (Value.pointer
                                                                                                                                          p5_t)),
                                                                                                                                    (7,
                                                                                                                                      SV.v
                                                                                                                                        (Value.pointer
                                                                                                                                          p7_r)),
                                                                                                                                    (9,
                                                                                                                                      SV.v
                                                                                                                                        (Value.int
                                                                                                                                          IntKind.i64
                                                                                                                                          (IntKind.wrap
                                                                                                                                            IntKind.i64
                                                                                                                                            (p9_i +
                                                                                                                                              (1 :
                                                                                                                                                Int)))))]
                                                                                                                                  w'_1))) ∧
                                                                                                                      ((!(n_9 ==
                                                                                                                                (0 :
                                                                                                                                  Int)) ==
                                                                                                                              decide
                                                                                                                                (n ≥
                                                                                                                                  (0 :
                                                                                                                                    Int))) =
                                                                                                                          true →
                                                                                                                        R
                                                                                                                          (Ending.returned
                                                                                                                            (Value.bool
                                                                                                                              false))
                                                                                                                          w'_1))) ∧
                                              ((!b) = true → R (Ending.returned (Value.bool false)) w')) ∧
      (decide (p9_i < (150 : Int)) = false → CutD Tryd.prog M3 c3_0 e3_0 w (k3_0 R))) ∧
  (decide (p9_i < (↑p1_acts_n : Int)) = false → CutD Tryd.prog M3 c3_0 e3_0 w (k3_0 R))) := by kernel_rfl
/-! davit/davitlaw11.ThreadApart -/
def M4 : Mt := { N := 106, keep := [(0, [0, 3]), (1, [0, 3, 5, 6]), (2, [0, 3, 5, 6, 7]), (3, [0, 3, 5, 7, 27]), (4, [4]), (5, [0, 3, 5, 7, 9]), (6, [0, 3, 5, 7, 9, 35]), (7, [0, 3, 5, 7, 9]), (8, [0, 3, 5, 7, 9, 45]), (9, [4]), (10, [3, 5, 7, 10]), (11, [3, 5, 7, 10, 11]), (12, [3, 5, 7, 10, 11, 12]), (13, [3, 5, 7, 10, 11, 12, 51]), (14, [3, 5, 7, 10, 11, 12]), (15, [3, 5, 7, 10, 11, 12, 13]), (16, [3, 5, 7, 10, 11, 12]), (17, [3, 5, 10, 11]), (18, [3, 5, 10, 11, 15]), (19, [3, 5, 10, 11, 15, 74]), (20, [3, 5, 10, 11, 15]), (21, [3, 5, 10, 11, 15, 16, 17]), (22, [3, 5, 10, 11, 15, 104]), (23, [4]), (24, [4])], ords := [(22, [0, 1, 2, 3, 4, 5, 6, 7, 8, 9, 10, 11, 12, 13, 14, 15, 16, 17, 18])], bk := [(0, [3, 5, 7]), (1, [0, 3, 5, 7, 9]), (2, [3, 5, 7, 10, 11]), (3, [3, 5, 7, 10, 11, 12]), (4, []), (5, [3, 5, 10, 11, 15])], cuts := [(10, [3, 5, 7]), (17, [3, 5, 7, 10, 11]), (24, [])], lk := [(6, [0, 3, 5, 7, 9]), (13, [3, 5, 7, 10, 11, 12]), (19, [3, 5, 10, 11, 15])] }
noncomputable def c4 : Code := bodyOf Tryd.f4
noncomputable def c4_0 : Code := c4.sr.sr.sr.sr.sr
noncomputable def c4_1 : Code := c4.sr.sr.sr.sr.sl.sr.sl.sl
noncomputable def c4_2 : Code := c4.sr.sr.sr.sr.sr.sr.sr.sr
noncomputable def c4_3 : Code := c4.sr.sr.sr.sr.sr.sr.sr.sr.sr.sr
noncomputable def c4_4 : Code := c4.sr.sr.sr.sr.sr.sr.sr.sl.sr.sl.sl
noncomputable def c4_5 : Code := c4.sr.sr.sr.sr.sr.sr.sr.sr.sr.sl.sr.sl.sl
def e4_0 (p3_more : Addr) (p5_t : Option Addr) (p7_r : Option Addr) : Env := [(3, SV.v (Value.pointer (some p3_more))), (5, SV.v (Value.pointer p5_t)), (7, SV.v (Value.pointer p7_r))]
def e4_1 (p0_acts_a : Option Addr) (p0_acts_n : Nat) (p0_acts_c : Nat) (p3_more : Addr) (p5_t : Option Addr) (p7_r : Option Addr) (p9_i : Int) : Env := [(0, SV.v (Value.slice p0_acts_a p0_acts_n p0_acts_c)), (3, SV.v (Value.pointer (some p3_more))), (5, SV.v (Value.pointer p5_t)), (7, SV.v (Value.pointer p7_r)), (9, SV.v (Value.int IntKind.i64 p9_i))]
def e4_2 (p3_more : Addr) (p5_t : Option Addr) (p7_r : Option Addr) (p10_l_a : Option Addr) (p10_l_n : Nat) (p10_l_c : Nat) (p11_was_a : Option Addr) (p11_was_n : Nat) (p11_was_c : Nat) : Env := [(3, SV.v (Value.pointer (some p3_more))), (5, SV.v (Value.pointer p5_t)), (7, SV.v (Value.pointer p7_r)), (10, SV.v (Value.slice p10_l_a p10_l_n p10_l_c)), (11, SV.v (Value.slice p11_was_a p11_was_n p11_was_c))]
def e4_4 (p3_more : Addr) (p5_t : Option Addr) (p7_r : Option Addr) (p10_l_a : Option Addr) (p10_l_n : Nat) (p10_l_c : Nat) (p11_was_a : Option Addr) (p11_was_n : Nat) (p11_was_c : Nat) (p12_i : Int) : Env := [(3, SV.v (Value.pointer (some p3_more))), (5, SV.v (Value.pointer p5_t)), (7, SV.v (Value.pointer p7_r)), (10, SV.v (Value.slice p10_l_a p10_l_n p10_l_c)), (11, SV.v (Value.slice p11_was_a p11_was_n p11_was_c)), (12, SV.v (Value.int IntKind.i64 p12_i))]
def e4_3  : Env := []
def e4_5 (p3_more : Addr) (p5_t : Option Addr) (p10_l_a : Option Addr) (p10_l_n : Nat) (p10_l_c : Nat) (p11_was_a : Option Addr) (p11_was_n : Nat) (p11_was_c : Nat) (p15_i : Int) : Env := [(3, SV.v (Value.pointer (some p3_more))), (5, SV.v (Value.pointer p5_t)), (10, SV.v (Value.slice p10_l_a p10_l_n p10_l_c)), (11, SV.v (Value.slice p11_was_a p11_was_n p11_was_c)), (15, SV.v (Value.int IntKind.i64 p15_i))]
def k4_0 (R : Ending → World → Prop) : Cont := retK Tryd.prog Tryd.f4.results.toList R
def k4_1 (R : Ending → World → Prop) : Cont := blockK 0 [3, 5, 7] (seqK (fun E w => cutB (findL M4.cuts (headReg c4_0)) Tryd.prog M4 c4_0 E w (retK Tryd.prog Tryd.f4.results.toList R) fun E => den Tryd.prog M4 c4_0 E w (retK Tryd.prog Tryd.f4.results.toList R)) (retK Tryd.prog Tryd.f4.results.toList R))
def k4_2 (R : Ending → World → Prop) : Cont := retK Tryd.prog Tryd.f4.results.toList R
def k4_4 (R : Ending → World → Prop) : Cont := blockK 2 [3, 5, 7, 10, 11] (seqK (fun E w => cutB (findL M4.cuts (headReg c4_2)) Tryd.prog M4 c4_2 E w (retK Tryd.prog Tryd.f4.results.toList R) fun E => den Tryd.prog M4 c4_2 E w (retK Tryd.prog Tryd.f4.results.toList R)) (retK Tryd.prog Tryd.f4.results.toList R))
def k4_3 (R : Ending → World → Prop) : Cont := retK Tryd.prog Tryd.f4.results.toList R
def k4_5 (R : Ending → World → Prop) : Cont := blockK 4 [] (seqK (fun E w => cutB (findL M4.cuts (headReg c4_3)) Tryd.prog M4 c4_3 E w (retK Tryd.prog Tryd.f4.results.toList R) fun E => den Tryd.prog M4 c4_3 E w (retK Tryd.prog Tryd.f4.results.toList R)) (retK Tryd.prog Tryd.f4.results.toList R))
theorem b4 : Tryd.f4.body = some c4 := by kernel_rfl
theorem n4 : Tryd.f4.ntmps = M4.N := by kernel_rfl
theorem u4 {p0_acts_a : Option Addr} {p0_acts_n : Nat} {p0_acts_c : Nat} {p1_more_0 : Int} {p1_more_1 : Int} {p1_more_2 : Int} {p1_more_3 : Int} {p1_more_4 : Int} {p1_more_5 : Bool} {w : World} {R : Ending → World → Prop} (h : den Tryd.prog M4 c4 (argE 0 [(Value.slice p0_acts_a p0_acts_n p0_acts_c), (Value.agg #[(Value.int IntKind.i64 p1_more_0), (Value.int IntKind.i64 p1_more_1), (Value.int IntKind.i64 p1_more_2), (Value.int IntKind.u64 p1_more_3), (Value.int IntKind.i64 p1_more_4), (Value.bool p1_more_5)])]) w (retK Tryd.prog Tryd.f4.results.toList R)) : Calls Tryd.prog 4 #[(Value.slice p0_acts_a p0_acts_n p0_acts_c), (Value.agg #[(Value.int IntKind.i64 p1_more_0), (Value.int IntKind.i64 p1_more_1), (Value.int IntKind.i64 p1_more_2), (Value.int IntKind.u64 p1_more_3), (Value.int IntKind.i64 p1_more_4), (Value.bool p1_more_5)])] w R := calls_den okProg Tryd.func4 b4 n4 (Nat.le_of_ble_eq_true rfl) h
theorem t4 (p0_acts_a : Option Addr) (p0_acts_n : Nat) (p0_acts_c : Nat) (p1_more_0 : Int) (p1_more_1 : Int) (p1_more_2 : Int) (p1_more_3 : Int) (p1_more_4 : Int) (p1_more_5 : Bool) (w : World) (R : Ending → World → Prop) : den Tryd.prog M4 c4 (argE 0 [(Value.slice p0_acts_a p0_acts_n p0_acts_c), (Value.agg #[(Value.int IntKind.i64 p1_more_0), (Value.int IntKind.i64 p1_more_1), (Value.int IntKind.i64 p1_more_2), (Value.int IntKind.u64 p1_more_3), (Value.int IntKind.i64 p1_more_4), (Value.bool p1_more_5)])]) w (retK Tryd.prog Tryd.f4.results.toList R) =
(New w
  [Value.int IntKind.i64 p1_more_0, Value.int IntKind.i64 p1_more_1, Value.int IntKind.i64 p1_more_2,
    Value.int IntKind.u64 p1_more_3, Value.int IntKind.i64 p1_more_4, Value.bool p1_more_5]
  34 fun p w' =>
  Call Tryd.prog 6 [Value.int IntKind.i64 8] w' fun e w' =>
    ∃ p_1 n,
      e = Ending.returned (Value.tuple #[Value.pointer p_1, Value.int IntKind.i64 n]) ∧
        Call Tryd.prog 7 [Value.int IntKind.i64 8] w' fun e w' =>
          ∃ p_2 n_1,
            e = Ending.returned (Value.tuple #[Value.pointer p_2, Value.int IntKind.i64 n_1]) ∧
              ((n != (0 : Int)) = true → R (Ending.returned (Value.bool false)) w') ∧
                ((n != (0 : Int)) = false →
                  Cut
                    (WP Tryd.prog 106 (Code.loop c4_1)
                      (e4_1 p0_acts_a p0_acts_n p0_acts_c p p_1 p_2 (0 : Int)) w' (k4_1 R)))) := by kernel_rfl
theorem t4_0 (p3_more : Addr) (p5_t : Option Addr) (p7_r : Option Addr) (w : World) (R : Ending → World → Prop) : den Tryd.prog M4 c4_0 (e4_0 p3_more p5_t p7_r) w (k4_0 R) =
(Call Tryd.prog 11 [Value.pointer p5_t] w fun e w' =>
  ∃ p n c,
    e = Ending.returned (Value.slice p n c) ∧
      Cut
        (WP Tryd.prog 106 (Code.loop c4_4) (e4_4 p3_more p5_t p7_r p n c none 0 0 (0 : Int))
          w' (k4_4 R))) := by kernel_rfl
theorem t4_1 (p0_acts_a : Option Addr) (p0_acts_n : Nat) (p0_acts_c : Nat) (p3_more : Addr) (p5_t : Option Addr) (p7_r : Option Addr) (p9_i : Int) (w : World) (B4_1 : Env → World → Prop) (R : Ending → World → Prop) : den Tryd.prog M4 c4_1 (e4_1 p0_acts_a p0_acts_n p0_acts_c p3_more p5_t p7_r p9_i) w (loopK B4_1 (k4_1 R)) =
((decide (p9_i < (↑p0_acts_n : Int)) = true →
    (decide (p9_i < (80 : Int)) = true →
        ((0 : Int) ≤ p9_i ∧ p9_i < (↑p0_acts_n : Int)) ∧
          ∃ a,
            p0_acts_a = some a ∧
              ∃ n,
                World.cell? w (Addr.add (Addr.add a (Int.toNat p9_i * 6)) 0) =
                    some (Value.int IntKind.i64 n) ∧
                  ∃ n_1,
                    World.cell? w (Addr.add (Addr.add a (Int.toNat p9_i * 6)) 1) =
                        some (Value.int IntKind.i64 n_1) ∧
                      ∃ n_2,
                        World.cell? w (Addr.add (Addr.add a (Int.toNat p9_i * 6)) 2) =
                            some (Value.int IntKind.i64 n_2) ∧
                          ∃ n_3,
                            World.cell? w (Addr.add (Addr.add a (Int.toNat p9_i * 6)) 3) =
                                some (Value.int IntKind.u64 n_3) ∧
                              ∃ n_4,
                                World.cell? w (Addr.add (Addr.add a (Int.toNat p9_i * 6)) 4) =
                                    some (Value.int IntKind.i64 n_4) ∧
                                  ∃ b,
                                    World.cell? w (Addr.add (Addr.add a (Int.toNat p9_i * 6)) 5) =
                                        some (Value.bool b) ∧
                                      Call Tryd.prog 9
                                        [Value.pointer p5_t, Value.pointer p7_r,
                                          Value.agg
                                            #[Value.int IntKind.i64 n, Value.int IntKind.i64 n_1,
                                              Value.int IntKind.i64 n_2, Value.int IntKind.u64 n_3,
                                              Value.int IntKind.i64 n_4, Value.bool b]]
                                        w fun e w' =>
                                        ∃ b,
                                          e = Ending.returned (Value.bool b) ∧
                                            ((!b) = true → R (Ending.returned (Value.bool false)) w') ∧
                                              ((!b) = false →
                                                B4_1
                                                  [(0, SV.v (Value.slice p0_acts_a p0_acts_n p0_acts_c)),
                                                    (3, SV.v (Value.pointer (some p3_more))),
                                                    (5, SV.v (Value.pointer p5_t)),
                                                    (7, SV.v (Value.pointer p7_r)),
                                                    (9,
                                                      SV.v
                                                        (Value.int IntKind.i64
                                                          (IntKind.wrap IntKind.i64 (p9_i + (1 : Int)))))]
                                                  w')) ∧
      (decide (p9_i < (80 : Int)) = false → CutD Tryd.prog M4 c4_0 (e4_0 p3_more p5_t p7_r) w (k4_0 R))) ∧
  (decide (p9_i < (↑p0_acts_n : Int)) = false → CutD Tryd.prog M4 c4_0 (e4_0 p3_more p5_t p7_r) w (k4_0 R))) := by kernel_rfl
theorem t4_2 (p3_more : Addr) (p5_t : Option Addr) (p7_r : Option Addr) (p10_l_a : Option Addr) (p10_l_n : Nat) (p10_l_c : Nat) (p11_was_a : Option Addr) (p11_was_n : Nat) (p11_was_c : Nat) (w : World) (R : Ending → World → Prop) : den Tryd.prog M4 c4_2 (e4_2 p3_more p5_t p7_r p10_l_a p10_l_n p10_l_c p11_was_a p11_was_n p11_was_c) w (k4_2 R) =
(∃ n,
  World.cell? w (Addr.add p3_more 0) = some (Value.int IntKind.i64 n) ∧
    ∃ n_1,
      World.cell? w (Addr.add p3_more 1) = some (Value.int IntKind.i64 n_1) ∧
        ∃ n_2,
          World.cell? w (Addr.add p3_more 2) = some (Value.int IntKind.i64 n_2) ∧
            ∃ n_3,
              World.cell? w (Addr.add p3_more 3) = some (Value.int IntKind.u64 n_3) ∧
                ∃ n_4,
                  World.cell? w (Addr.add p3_more 4) = some (Value.int IntKind.i64 n_4) ∧
                    ∃ b,
                      World.cell? w (Addr.add p3_more 5) = some (Value.bool b) ∧
                        Call Tryd.prog 9
                          [Value.pointer p5_t, Value.pointer p7_r,
                            Value.agg
                              #[Value.int IntKind.i64 n, Value.int IntKind.i64 n_1, Value.int IntKind.i64 n_2,
                                Value.int IntKind.u64 n_3, Value.int IntKind.i64 n_4, Value.bool b]]
                          w fun e w' =>
                          ∃ b,
                            e = Ending.returned (Value.bool b) ∧
                              Cut
                                (WP Tryd.prog 106 (Code.loop c4_5)
                                  (e4_5 p3_more p5_t p10_l_a p10_l_n p10_l_c p11_was_a p11_was_n p11_was_c
                                    (0 : Int))
                                  w' (k4_5 R))) := by kernel_rfl
theorem t4_4 (p3_more : Addr) (p5_t : Option Addr) (p7_r : Option Addr) (p10_l_a : Option Addr) (p10_l_n : Nat) (p10_l_c : Nat) (p11_was_a : Option Addr) (p11_was_n : Nat) (p11_was_c : Nat) (p12_i : Int) (w : World) (B4_4 : Env → World → Prop) (R : Ending → World → Prop) : den Tryd.prog M4 c4_4 (e4_4 p3_more p5_t p7_r p10_l_a p10_l_n p10_l_c p11_was_a p11_was_n p11_was_c p12_i) w (loopK B4_4 (k4_4 R)) =
((decide (p12_i < (↑p10_l_n : Int)) = true →
    ((0 : Int) ≤ p12_i ∧ p12_i < (↑p10_l_n : Int)) ∧
      ∃ a,
        p10_l_a = some a ∧
          ∃ n,
            World.cell? w (Addr.add a (Int.toNat p12_i * 1)) = some (Value.int IntKind.i64 n) ∧
              Call Tryd.prog 13 [Value.pointer p5_t, Value.int IntKind.i64 n] w fun e w' =>
                ∃ n n_1 n_2 b b_1 n_3 n_4,
                  e =
                      Ending.returned
                        (Value.tuple
                          #[Value.agg
                              #[Value.int IntKind.i64 n, Value.int IntKind.u64 n_1, Value.int IntKind.i64 n_2,
                                Value.bool b, Value.bool b_1, Value.int IntKind.i64 n_3],
                            Value.int IntKind.i64 n_4]) ∧
                    New w'
                      [Value.int IntKind.i64 0, Value.int IntKind.u64 0,
                        Value.int IntKind.i64 0, Value.bool false, Value.bool false,
                        Value.int IntKind.i64 0]
                      40 fun p w' =>
                      Wr w' p
                        [Value.int IntKind.i64 n, Value.int IntKind.u64 n_1, Value.int IntKind.i64 n_2, Value.bool b,
                          Value.bool b_1, Value.int IntKind.i64 n_3]
                        fun w' =>
                        ∃ n,
                          World.cell? w' (Addr.add p 0) = some (Value.int IntKind.i64 n) ∧
                            ∃ n_5,
                              World.cell? w' (Addr.add p 1) = some (Value.int IntKind.u64 n_5) ∧
                                ∃ n_6,
                                  World.cell? w' (Addr.add p 2) = some (Value.int IntKind.i64 n_6) ∧
                                    ∃ b,
                                      World.cell? w' (Addr.add p 3) = some (Value.bool b) ∧
                                        ∃ b_2,
                                          World.cell? w' (Addr.add p 4) = some (Value.bool b_2) ∧
                                            ∃ n_7,
                                              World.cell? w' (Addr.add p 5) = some (Value.int IntKind.i64 n_7) ∧
                                                New w'
                                                  [Value.int IntKind.i64 n, Value.int IntKind.u64 n_5,
                                                    Value.int IntKind.i64 n_6, Value.bool b, Value.bool b_2,
                                                    Value.int IntKind.i64 n_7]
                                                  40 fun p w' =>
                                                  ∃ p_1 n c w'_1,
                                                    Sem.run Tryd.prog
                                                          (Builtin.append_ #[51, 51] 51
                                                            #[Value.slice p11_was_a p11_was_n p11_was_c,
                                                              Value.slice (some p) 1 1])
                                                          w' =
                                                        Result.ok (Value.slice p_1 n c) w'_1 ∧
                                                      B4_4
                                                        [(3, SV.v (Value.pointer (some p3_more))),
                                                          (5, SV.v (Value.pointer p5_t)),
                                                          (7, SV.v (Value.pointer p7_r)),
                                                          (10, SV.v (Value.slice p10_l_a p10_l_n p10_l_c)),
                                                          (11, SV.v (Value.slice p_1 n c)),
                                                          (12,
                                                            SV.v
                                                              (Value.int IntKind.i64
                                                                (IntKind.wrap IntKind.i64 (p12_i + (1 : Int)))))]
                                                        w'_1) ∧
  (decide (p12_i < (↑p10_l_n : Int)) = false →
    CutD Tryd.prog M4 c4_2 (e4_2 p3_more p5_t p7_r p10_l_a p10_l_n p10_l_c p11_was_a p11_was_n p11_was_c) w
      (k4_2 R))) := by kernel_rfl
theorem t4_3  (w : World) (R : Ending → World → Prop) : den Tryd.prog M4 c4_3 (e4_3 ) w (k4_3 R) =
(Call Tryd.prog 8 [] w fun e w' =>
  ∃ b, e = Ending.returned (Value.bool b) ∧ R (Ending.returned (Value.bool b)) w') := by kernel_rfl
theorem t4_5 (p3_more : Addr) (p5_t : Option Addr) (p10_l_a : Option Addr) (p10_l_n : Nat) (p10_l_c : Nat) (p11_was_a : Option Addr) (p11_was_n : Nat) (p11_was_c : Nat) (p15_i : Int) (w : World) (B4_5 : Env → World → Prop) (R : Ending → World → Prop) : den Tryd.prog M4 c4_5 (e4_5 p3_more p5_t p10_l_a p10_l_n p10_l_c p11_was_a p11_was_n p11_was_c p15_i) w (loopK B4_5 (k4_5 R)) =
((decide (p15_i < (↑p11_was_n : Int)) = true →
    ((0 : Int) ≤ p15_i ∧ p15_i < (↑p10_l_n : Int)) ∧
      ∃ a,
        p10_l_a = some a ∧
          ∃ n,
            World.cell? w (Addr.add a (Int.toNat p15_i * 1)) = some (Value.int IntKind.i64 n) ∧
              Call Tryd.prog 13 [Value.pointer p5_t, Value.int IntKind.i64 n] w fun e w' =>
                ∃ n n_1 n_2 b b_1 n_3 n_4,
                  e =
                      Ending.returned
                        (Value.tuple
                          #[Value.agg
                              #[Value.int IntKind.i64 n, Value.int IntKind.u64 n_1, Value.int IntKind.i64 n_2,
                                Value.bool b, Value.bool b_1, Value.int IntKind.i64 n_3],
                            Value.int IntKind.i64 n_4]) ∧
                    New w'
                      [Value.int IntKind.i64 0, Value.int IntKind.u64 0,
                        Value.int IntKind.i64 0, Value.bool false, Value.bool false,
                        Value.int IntKind.i64 0]
                      40 fun p w' =>
                      Wr w' p
                        [Value.int IntKind.i64 n, Value.int IntKind.u64 n_1, Value.int IntKind.i64 n_2, Value.bool b,
                          Value.bool b_1, Value.int IntKind.i64 n_3]
                        fun w' =>
                        ∀ (w'_1 : World),
                          World.heap w'_1 = World.heap w' →
                            World.os w'_1 = World.os w' →
                              World.tape w'_1 = World.tape w' →
                                World.output w'_1 = World.output w' →
                                  ((0 : Int) ≤ p15_i ∧ p15_i < (↑p10_l_n : Int)) ∧
                                    ∃ a,
                                      p10_l_a = some a ∧
                                        ∃ n,
                                          World.cell? w'_1 (Addr.add a (Int.toNat p15_i * 1)) =
                                              some (Value.int IntKind.i64 n) ∧
                                            ∃ n_5,
                                              World.cell? w'_1 (Addr.add p3_more 1) =
                                                  some (Value.int IntKind.i64 n_5) ∧
                                                ((n != n_5) = true →
                                                    ((n_4 != (0 : Int)) = false →
                                                        ∃ n,
                                                          World.cell? w'_1 (Addr.add p 0) =
                                                              some (Value.int IntKind.i64 n) ∧
                                                            ∃ n_6,
                                                              World.cell? w'_1 (Addr.add p 1) =
                                                                  some (Value.int IntKind.u64 n_6) ∧
                                                                ∃ n_7,
                                                                  World.cell? w'_1 (Addr.add p 2) =
                                                                      some (Value.int IntKind.i64 n_7) ∧
                                                                    ∃ b,
                                                                      World.cell? w'_1 (Addr.add p 3) =
                                                                          some (Value.bool b) ∧
                                                                        ∃ b_2,
                                                                          World.cell? w'_1 (Addr.add p 4) =
                                                                              some (Value.bool b_2) ∧
                                                                            ∃ n_8,
                                                                              World.cell? w'_1 (Addr.add p 5) =
                                                                                  some (Value.int IntKind.i64 n_8) ∧
                                                                                ((0 : Int) ≤ p15_i ∧
                                                                                    p15_i < (↑p11_was_n : Int)) ∧
                                                                                  ∃ a,
                                                                                    p11_was_a = some a ∧
                                                                                      ∃ n_9,
                                                                                        World.cell? w'_1
                                                                                              (Addr.add
                                                                                                (Addr.add a
                                                                                                  (Int.toNat p15_i *
                                                                                                    6))
                                                                                                0) =
                                                                                            some
                                                                                              (Value.int IntKind.i64
                                                                                                n_9) ∧
                                                                                          ∃ n_10,
                                                                                            World.cell? w'_1
                                                                                                  (Addr.add
                                                                                                    (Addr.add a
                                                                                                      (Int.toNat
                                                                                                          p15_i *
                                                                                                        6))
                                                                                                    1) =
                                                                                                some
                                                                                                  (Value.int IntKind.u64
                                                                                                    n_10) ∧
                                                                                              ∃ n_11,
                                                                                                World.cell? w'_1
                                                                                                      (Addr.add
                                                                                                        (Addr.add a
                                                                                                          (Int.toNat
                                                                                                              p15_i *
                                                                                                            6))
                                                                                                        2) =
                                                                                                    some
                                                                                                      (Value.int
                                                                                                        IntKind.i64
                                                                                                        n_11) ∧
                                                                                                  ∃ b_3,
                                                                                                    World.cell? w'_1
                                                                                                          (Addr.add
                                                                                                            (Addr.add a
                                                                                                              (Int.toNat
                                                                                                                  p15_i *
                                                                                                                6))
                                                                                                            3) =
                                                                                                        some
                                                                                                          (Value.bool
                                                                                                            b_3) ∧
                                                                                                      ∃ b_4,
                                                                                                        World.cell? w'_1
                                                                                                              (Addr.add
                                                                                                                (Addr.add
                                                                                                                  a
                                                                                                                  (Int.toNat
                                                                                                                      p15_i *
                                                                                                                    6))
                                                                                                                4) =
                                                                                                            some
                                                                                                              (Value.bool
                                                                                                                b_4) ∧
                                                                                                          ∃ n_12,
                                                                                                            World.cell?
                                                                                                                  w'_1
                                                                                                                  (Addr.add
                                                                                                                    (Addr.add
                                                                                                                      a
                                                                                                                      (Int.toNat
                                                                                                                          p15_i *
                                                                                                                        6))
                                                                                                                    5) =
                                                                                                                some
                                                                                                                  (Value.int
                                                                                                                    IntKind.i64
                                                                                                                    n_12) ∧
                                                                                                              ∃ b_5,
                                                                                                                Sem.run
                                                                                                                      Tryd.prog
                                                                                                                      (Op.equal
                                                                                                                        40
                                                                                                                        (Value.agg
                                                                                                                          #[Value.int
                                                                                                                              IntKind.i64
                                                                                                                              n,
                                                                                                                            Value.int
                                                                                                                              IntKind.u64
                                                                                                                              n_6,
                                                                                                                            Value.int
                                                                                                                              IntKind.i64
                                                                                                                              n_7,
                                                                                                                            Value.bool
                                                                                                                              b,
                                                                                                                            Value.bool
                                                                                                                              b_2,
                                                                                                                            Value.int
                                                                                                                              IntKind.i64
                                                                                                                              n_8])
                                                                                                                        (Value.agg
                                                                                                                          #[Value.int
                                                                                                                              IntKind.i64
                                                                                                                              n_9,
                                                                                                                            Value.int
                                                                                                                              IntKind.u64
                                                                                                                              n_10,
                                                                                                                            Value.int
                                                                                                                              IntKind.i64
                                                                                                                              n_11,
                                                                                                                            Value.bool
                                                                                                                              b_3,
                                                                                                                            Value.bool
                                                                                                                              b_4,
                                                                                                                            Value.int
                                                                                                                              IntKind.i64
                                                                                                                              n_12]))
                                                                                                                      w'_1 =
                                                                                                                    Result.ok
                                                                                                                      b_5
                                                                                                                      w'_1 ∧
                                                                                                                  false =
                                                                                                                      false ∧
                                                                                                                    ((!b_5) =
                                                                                                                          true →
                                                                                                                        R
                                                                                                                          (Ending.returned
                                                                                                                            (Value.bool
                                                                                                                              false))
                                                                                                                          w'_1) ∧
                                                                                                                      ((!b_5) =
                                                                                                                          false →
                                                                                                                        B4_5
                                                                                                                          [(3,
                                                                                                                              SV.v
                                                                                                                                (Value.pointer
                                                                                                                                  (some
                                                                                                                                    p3_more))),
                                                                                                                            (5,
                                                                                                                              SV.v
                                                                                                                                (Value.pointer
                                                                                                                                  p5_t)),
                                                                                                                            (10,
                                                                                                                              SV.v
                                                                                                                                (Value.slice
                                                                                                                                  p10_l_a
                                                                                                                                  p10_l_n
                                                                                                                                  p10_l_c)),
                                                                                                                            (11,
                                                                                                                              SV.v
                                                                                                                                (Value.slice
                                                                                                                                  p11_was_a
                                                                                                                                  p11_was_n
                                                                                                                                  p11_was_c)),
                                                                                                                            (15,
                                                                                                                              SV.v
                                                                                                                                (Value.int
                                                                                                                                  IntKind.i64
                                                                                                                                  (IntKind.wrap
                                                                                                                                    IntKind.i64
                                                                                                                                    (p15_i +
                                                                                                                                      (1 :
                                                                                                                                        Int)))))]
                                                                                                                          w'_1)) ∧
                                                      ((n_4 != (0 : Int)) = true →
                                                        R (Ending.returned (Value.bool false)) w'_1)) ∧
                                                  ((n != n_5) = false →
                                                    B4_5
                                                      [(3, SV.v (Value.pointer (some p3_more))),
                                                        (5, SV.v (Value.pointer p5_t)),
                                                        (10, SV.v (Value.slice p10_l_a p10_l_n p10_l_c)),
                                                        (11,
                                                          SV.v (Value.slice p11_was_a p11_was_n p11_was_c)),
                                                        (15,
                                                          SV.v
                                                            (Value.int IntKind.i64
                                                              (IntKind.wrap IntKind.i64 (p15_i + (1 : Int)))))]
                                                      w'_1)) ∧
  (decide (p15_i < (↑p11_was_n : Int)) = false → CutD Tryd.prog M4 c4_3 e4_3 w (k4_3 R))) := by kernel_rfl
/-! davit/davitlaw11.ThreadNil -/
def M5 : Mt := { N := 73, keep := [(0, [0, 1]), (1, [0, 1, 5]), (2, [0, 5, 7]), (3, [0, 5, 7, 9]), (4, [0, 5, 7, 9, 11]), (5, [4])], ords := [], bk := [], cuts := [], lk := [] }
noncomputable def c5 : Code := bodyOf Tryd.f5
theorem b5 : Tryd.f5.body = some c5 := by kernel_rfl
theorem n5 : Tryd.f5.ntmps = M5.N := by kernel_rfl
theorem u5 {p0_id : Int} {p1_m : Int} {w : World} {R : Ending → World → Prop} (h : den Tryd.prog M5 c5 (argE 0 [(Value.int IntKind.i64 p0_id), (Value.int IntKind.u64 p1_m)]) w (retK Tryd.prog Tryd.f5.results.toList R)) : Calls Tryd.prog 5 #[(Value.int IntKind.i64 p0_id), (Value.int IntKind.u64 p1_m)] w R := calls_den okProg Tryd.func5 b5 n5 (Nat.le_of_ble_eq_true rfl) h
theorem t5 (p0_id : Int) (p1_m : Int) (w : World) (R : Ending → World → Prop) : den Tryd.prog M5 c5 (argE 0 [(Value.int IntKind.i64 p0_id), (Value.int IntKind.u64 p1_m)]) w (retK Tryd.prog Tryd.f5.results.toList R) =
(Call Tryd.prog 16 [Value.pointer none, Value.int IntKind.i64 0, Value.int IntKind.u64 p1_m] w
  fun e w' =>
  ∃ n n_1,
    e = Ending.returned (Value.tuple #[Value.int IntKind.i64 n, Value.int IntKind.i64 n_1]) ∧
      Call Tryd.prog 13 [Value.pointer none, Value.int IntKind.i64 p0_id] w' fun e w' =>
        ∃ n n_2 n_3 b b_1 n_4 n_5,
          e =
              Ending.returned
                (Value.tuple
                  #[Value.agg
                      #[Value.int IntKind.i64 n, Value.int IntKind.u64 n_2, Value.int IntKind.i64 n_3, Value.bool b,
                        Value.bool b_1, Value.int IntKind.i64 n_4],
                    Value.int IntKind.i64 n_5]) ∧
            New w'
              [Value.int IntKind.i64 0, Value.int IntKind.u64 0, Value.int IntKind.i64 0,
                Value.bool false, Value.bool false, Value.int IntKind.i64 0]
              40 fun p w' =>
              Wr w' p
                [Value.int IntKind.i64 n, Value.int IntKind.u64 n_2, Value.int IntKind.i64 n_3, Value.bool b,
                  Value.bool b_1, Value.int IntKind.i64 n_4]
                fun w' =>
                Call Tryd.prog 17 [Value.pointer none, Value.int IntKind.i64 p0_id] w' fun e w' =>
                  ∃ n n_6,
                    e = Ending.returned (Value.tuple #[Value.int IntKind.i64 n, Value.int IntKind.i64 n_6]) ∧
                      ((n_1 == (1 : Int)) = true →
                          Call Tryd.prog 18 [Value.pointer none, Value.int IntKind.i64 p0_id] w' fun e w' =>
                            ∃ n,
                              e = Ending.returned (Value.int IntKind.i64 n) ∧
                                ((n == (1 : Int)) = true →
                                    ((n_5 == (1 : Int)) = true →
                                        Call Tryd.prog 19
                                          [Value.pointer none, Value.int IntKind.i64 p0_id,
                                            Value.int IntKind.u64 1]
                                          w' fun e w' =>
                                          ∃ n,
                                            e = Ending.returned (Value.int IntKind.i64 n) ∧
                                              ((n == (1 : Int)) = true →
                                                  Call Tryd.prog 20
                                                    [Value.pointer none, Value.int IntKind.i64 p0_id,
                                                      Value.int IntKind.i64 0, Value.bool true]
                                                    w' fun e w' =>
                                                    ∃ n,
                                                      e = Ending.returned (Value.int IntKind.i64 n) ∧
                                                        ((n == (1 : Int)) = true →
                                                            Call Tryd.prog 21
                                                              [Value.pointer none, Value.int IntKind.i64 p0_id,
                                                                Value.int IntKind.i64 1]
                                                              w' fun e w' =>
                                                              ∃ n,
                                                                e = Ending.returned (Value.int IntKind.i64 n) ∧
                                                                  ((n == (1 : Int)) = true →
                                                                      ((n_6 == (1 : Int)) = true →
                                                                          Call Tryd.prog 11 [Value.pointer none]
                                                                            w' fun e w' =>
                                                                            ∃ p n c,
                                                                              e = Ending.returned (Value.slice p n c) ∧
                                                                                (((↑n : Int) == (0 : Int)) = true →
                                                                                    Call Tryd.prog 8 [] w'
                                                                                      fun e w' =>
                                                                                      ∃ b,
                                                                                        e =
                                                                                            Ending.returned
                                                                                              (Value.bool b) ∧
                                                                                          R
                                                                                            (Ending.returned
                                                                                              (Value.bool b))
                                                                                            w') ∧
                                                                                  (((↑n : Int) == (0 : Int)) = false →
                                                                                    R
                                                                                      (Ending.returned
                                                                                        (Value.bool false))
                                                                                      w')) ∧
                                                                        ((n_6 == (1 : Int)) = false →
                                                                          R (Ending.returned (Value.bool false)) w')) ∧
                                                                    ((n == (1 : Int)) = false →
                                                                      R (Ending.returned (Value.bool false)) w')) ∧
                                                          ((n == (1 : Int)) = false →
                                                            R (Ending.returned (Value.bool false)) w')) ∧
                                                ((n == (1 : Int)) = false →
                                                  R (Ending.returned (Value.bool false)) w')) ∧
                                      ((n_5 == (1 : Int)) = false → R (Ending.returned (Value.bool false)) w')) ∧
                                  ((n == (1 : Int)) = false → R (Ending.returned (Value.bool false)) w')) ∧
                        ((n_1 == (1 : Int)) = false → R (Ending.returned (Value.bool false)) w')) := by kernel_rfl
/-! davit/thread.New -/
def M6 : Mt := { N := 25, keep := [(0, [0]), (1, [0, 11]), (2, [2, 3]), (3, [0, 4, 5]), (4, [0, 4, 5, 17]), (5, [2, 3]), (6, [2, 3])], ords := [], bk := [], cuts := [], lk := [] }
noncomputable def c6 : Code := bodyOf Tryd.f6
theorem b6 : Tryd.f6.body = some c6 := by kernel_rfl
theorem n6 : Tryd.f6.ntmps = M6.N := by kernel_rfl
theorem u6 {p0_cpus : Int} {w : World} {R : Ending → World → Prop} (h : den Tryd.prog M6 c6 (argE 0 [(Value.int IntKind.i64 p0_cpus)]) w (retK Tryd.prog Tryd.f6.results.toList R)) : Calls Tryd.prog 6 #[(Value.int IntKind.i64 p0_cpus)] w R := calls_den okProg Tryd.func6 b6 n6 (Nat.le_of_ble_eq_true rfl) h
theorem t6 (p0_cpus : Int) (w : World) (R : Ending → World → Prop) : den Tryd.prog M6 c6 (argE 0 [(Value.int IntKind.i64 p0_cpus)]) w (retK Tryd.prog Tryd.f6.results.toList R) =
((decide (p0_cpus < (1 : Int)) = false →
    (decide (p0_cpus > (64 : Int)) = true →
        R (Ending.returned (Value.tuple #[Value.pointer none, Value.int IntKind.i64 2])) w) ∧
      (decide (p0_cpus > (64 : Int)) = false →
        Call Tryd.prog 22 [Value.int IntKind.i64 32] w fun e w' =>
          ∃ p n,
            e = Ending.returned (Value.tuple #[Value.pointer p, Value.int IntKind.i64 n]) ∧
              ((n != (0 : Int)) = true →
                  R (Ending.returned (Value.tuple #[Value.pointer none, Value.int IntKind.i64 n])) w') ∧
                ((n != (0 : Int)) = false →
                  NewMap w' fun r w' =>
                    New w' [Value.pointer p, Value.int IntKind.i64 p0_cpus, Value.map (some r)] 68 fun p w' =>
                      R (Ending.returned (Value.tuple #[Value.pointer (some p), Value.int IntKind.i64 0]))
                        w'))) ∧
  (decide (p0_cpus < (1 : Int)) = true →
    R (Ending.returned (Value.tuple #[Value.pointer none, Value.int IntKind.i64 2])) w)) := by kernel_rfl
/-! davit/davitref11.New -/
def M7 : Mt := { N := 13, keep := [(0, [0]), (1, [0, 9]), (2, [2, 3]), (3, [2, 3])], ords := [], bk := [], cuts := [], lk := [] }
noncomputable def c7 : Code := bodyOf Tryd.f7
theorem b7 : Tryd.f7.body = some c7 := by kernel_rfl
theorem n7 : Tryd.f7.ntmps = M7.N := by kernel_rfl
theorem u7 {p0_cpus : Int} {w : World} {R : Ending → World → Prop} (h : den Tryd.prog M7 c7 (argE 0 [(Value.int IntKind.i64 p0_cpus)]) w (retK Tryd.prog Tryd.f7.results.toList R)) : Calls Tryd.prog 7 #[(Value.int IntKind.i64 p0_cpus)] w R := calls_den okProg Tryd.func7 b7 n7 (Nat.le_of_ble_eq_true rfl) h
theorem t7 (p0_cpus : Int) (w : World) (R : Ending → World → Prop) : den Tryd.prog M7 c7 (argE 0 [(Value.int IntKind.i64 p0_cpus)]) w (retK Tryd.prog Tryd.f7.results.toList R) =
((decide (p0_cpus < (1 : Int)) = false →
    (decide (p0_cpus > (64 : Int)) = true →
        R (Ending.returned (Value.tuple #[Value.pointer none, Value.int IntKind.i64 2])) w) ∧
      (decide (p0_cpus > (64 : Int)) = false →
        New w [Value.int IntKind.i64 p0_cpus, Value.slice none 0 0] 49 fun p w' =>
          R (Ending.returned (Value.tuple #[Value.pointer (some p), Value.int IntKind.i64 0])) w')) ∧
  (decide (p0_cpus < (1 : Int)) = true →
    R (Ending.returned (Value.tuple #[Value.pointer none, Value.int IntKind.i64 2])) w)) := by kernel_rfl
/-! davit/davitlaw11.known -/
def M8 : Mt := { N := 59, keep := [(0, []), (1, [1, 2]), (2, [1, 17]), (3, [0]), (4, [1]), (5, [1]), (6, [1, 3]), (7, [1, 3, 4, 5]), (8, [1, 3, 4, 5, 6, 7]), (9, [0])], ords := [], bk := [], cuts := [], lk := [] }
noncomputable def c8 : Code := bodyOf Tryd.f8
theorem b8 : Tryd.f8.body = some c8 := by kernel_rfl
theorem n8 : Tryd.f8.ntmps = M8.N := by kernel_rfl
theorem u8  {w : World} {R : Ending → World → Prop} (h : den Tryd.prog M8 c8 (argE 0 []) w (retK Tryd.prog Tryd.f8.results.toList R)) : Calls Tryd.prog 8 #[] w R := calls_den okProg Tryd.func8 b8 n8 (Nat.le_of_ble_eq_true rfl) h
theorem t8  (w : World) (R : Ending → World → Prop) : den Tryd.prog M8 c8 (argE 0 []) w (retK Tryd.prog Tryd.f8.results.toList R) =
(Call Tryd.prog 6 [Value.int IntKind.i64 2] w fun e w' =>
  ∃ p n,
    e = Ending.returned (Value.tuple #[Value.pointer p, Value.int IntKind.i64 n]) ∧
      ((n != (0 : Int)) = false →
          (Option.isNone p = true → R (Ending.returned (Value.bool false)) w') ∧
            (Option.isNone p = false →
              Call Tryd.prog 16
                [Value.pointer p, Value.int IntKind.i64 3, Value.int IntKind.u64 1] w' fun e w' =>
                ∃ n n_1,
                  e = Ending.returned (Value.tuple #[Value.int IntKind.i64 n, Value.int IntKind.i64 n_1]) ∧
                    Call Tryd.prog 16
                      [Value.pointer p, Value.int IntKind.i64 3, Value.int IntKind.u64 1] w' fun e w' =>
                      ∃ n n_2,
                        e = Ending.returned (Value.tuple #[Value.int IntKind.i64 n, Value.int IntKind.i64 n_2]) ∧
                          Call Tryd.prog 18 [Value.pointer p, Value.int IntKind.i64 1] w' fun e w' =>
                            ∃ n,
                              e = Ending.returned (Value.int IntKind.i64 n) ∧
                                Call Tryd.prog 16
                                  [Value.pointer p, Value.int IntKind.i64 0, Value.int IntKind.u64 2] w'
                                  fun e w' =>
                                  ∃ n_3 n_4,
                                    e =
                                        Ending.returned
                                          (Value.tuple #[Value.int IntKind.i64 n_3, Value.int IntKind.i64 n_4]) ∧
                                      Call Tryd.prog 13 [Value.pointer p, Value.int IntKind.i64 1] w'
                                        fun e w' =>
                                        ∃ n_5 n_6 n_7 b b_1 n_8 n_9,
                                          e =
                                              Ending.returned
                                                (Value.tuple
                                                  #[Value.agg
                                                      #[Value.int IntKind.i64 n_5, Value.int IntKind.u64 n_6,
                                                        Value.int IntKind.i64 n_7, Value.bool b, Value.bool b_1,
                                                        Value.int IntKind.i64 n_8],
                                                    Value.int IntKind.i64 n_9]) ∧
                                            New w'
                                              [Value.int IntKind.i64 0, Value.int IntKind.u64 0,
                                                Value.int IntKind.i64 0, Value.bool false, Value.bool false,
                                                Value.int IntKind.i64 0]
                                              40 fun p_1 w' =>
                                              Wr w' p_1
                                                [Value.int IntKind.i64 n_5, Value.int IntKind.u64 n_6,
                                                  Value.int IntKind.i64 n_7, Value.bool b, Value.bool b_1,
                                                  Value.int IntKind.i64 n_8]
                                                fun w' =>
                                                ((n == (0 : Int)) = true →
                                                    ((n_3 == (1 : Int)) = true →
                                                        ((n_4 == (0 : Int)) = true →
                                                            ((n_9 == (0 : Int)) = true →
                                                                ∃ n,
                                                                  World.cell? w' (Addr.add p_1 1) =
                                                                      some (Value.int IntKind.u64 n) ∧
                                                                    ((n == (2 : Int)) = true →
                                                                        Call Tryd.prog 11 [Value.pointer p] w'
                                                                          fun e w' =>
                                                                          ∃ p n c,
                                                                            e = Ending.returned (Value.slice p n c) ∧
                                                                              New w'
                                                                                [Value.int IntKind.i64 1,
                                                                                  Value.int IntKind.i64 2]
                                                                                3 fun p_2 w' =>
                                                                                Call Tryd.prog 10
                                                                                  [Value.slice p n c,
                                                                                    Value.slice (some p_2) 2
                                                                                      2]
                                                                                  w' fun e w' =>
                                                                                  ∃ b,
                                                                                    e = Ending.returned (Value.bool b) ∧
                                                                                      R
                                                                                        (Ending.returned (Value.bool b))
                                                                                        w') ∧
                                                                      ((n == (2 : Int)) = false →
                                                                        R (Ending.returned (Value.bool false)) w')) ∧
                                                              ((n_9 == (0 : Int)) = false →
                                                                R (Ending.returned (Value.bool false)) w')) ∧
                                                          ((n_4 == (0 : Int)) = false →
                                                            R (Ending.returned (Value.bool false)) w')) ∧
                                                      ((n_3 == (1 : Int)) = false →
                                                        R (Ending.returned (Value.bool false)) w')) ∧
                                                  ((n == (0 : Int)) = false →
                                                    R (Ending.returned (Value.bool false)) w'))) ∧
        ((n != (0 : Int)) = true → R (Ending.returned (Value.bool false)) w')) := by kernel_rfl
/-! davit/davitlaw11.do -/
def M9 : Mt := { N := 128, keep := [(0, [0, 1, 5]), (1, [0, 1, 5, 17]), (2, [1, 5, 11, 12]), (3, [11, 12, 13, 14]), (4, [6]), (5, [0, 1, 5, 17, 40]), (6, [1, 5, 7, 8]), (7, [7, 8, 9, 10]), (8, [6]), (9, [0, 1, 5, 17, 68]), (10, [6]), (11, [0, 1, 5, 17, 79]), (12, [6]), (13, [0, 1, 5, 17, 94]), (14, [6]), (15, [0, 1, 5, 113]), (16, [6])], ords := [(10, [0, 1, 2, 4, 5, 6, 3, 7, 8, 9]), (12, [0, 1, 2, 3, 4, 6, 7, 8, 9, 10, 5, 11, 12, 13]), (14, [0, 1, 2, 3, 4, 5, 6, 8, 9, 10, 11, 12, 13, 14, 7, 15, 16, 17]), (16, [0, 1, 2, 3, 4, 6, 7, 8, 9, 10, 5, 11, 12, 13])], bk := [(0, [6])], cuts := [], lk := [] }
noncomputable def c9 : Code := bodyOf Tryd.f9
theorem b9 : Tryd.f9.body = some c9 := by kernel_rfl
theorem n9 : Tryd.f9.ntmps = M9.N := by kernel_rfl
theorem u9 {p0_t : Option Addr} {p1_r : Option Addr} {p2_a_0 : Int} {p2_a_1 : Int} {p2_a_2 : Int} {p2_a_3 : Int} {p2_a_4 : Int} {p2_a_5 : Bool} {w : World} {R : Ending → World → Prop} (h : den Tryd.prog M9 c9 (argE 0 [(Value.pointer p0_t), (Value.pointer p1_r), (Value.agg #[(Value.int IntKind.i64 p2_a_0), (Value.int IntKind.i64 p2_a_1), (Value.int IntKind.i64 p2_a_2), (Value.int IntKind.u64 p2_a_3), (Value.int IntKind.i64 p2_a_4), (Value.bool p2_a_5)])]) w (retK Tryd.prog Tryd.f9.results.toList R)) : Calls Tryd.prog 9 #[(Value.pointer p0_t), (Value.pointer p1_r), (Value.agg #[(Value.int IntKind.i64 p2_a_0), (Value.int IntKind.i64 p2_a_1), (Value.int IntKind.i64 p2_a_2), (Value.int IntKind.u64 p2_a_3), (Value.int IntKind.i64 p2_a_4), (Value.bool p2_a_5)])] w R := calls_den okProg Tryd.func9 b9 n9 (Nat.le_of_ble_eq_true rfl) h
theorem t9 (p0_t : Option Addr) (p1_r : Option Addr) (p2_a_0 : Int) (p2_a_1 : Int) (p2_a_2 : Int) (p2_a_3 : Int) (p2_a_4 : Int) (p2_a_5 : Bool) (w : World) (R : Ending → World → Prop) : den Tryd.prog M9 c9 (argE 0 [(Value.pointer p0_t), (Value.pointer p1_r), (Value.agg #[(Value.int IntKind.i64 p2_a_0), (Value.int IntKind.i64 p2_a_1), (Value.int IntKind.i64 p2_a_2), (Value.int IntKind.u64 p2_a_3), (Value.int IntKind.i64 p2_a_4), (Value.bool p2_a_5)])]) w (retK Tryd.prog Tryd.f9.results.toList R) =
(New w
  [Value.int IntKind.i64 p2_a_0, Value.int IntKind.i64 p2_a_1, Value.int IntKind.i64 p2_a_2,
    Value.int IntKind.u64 p2_a_3, Value.int IntKind.i64 p2_a_4, Value.bool p2_a_5]
  34 fun p w' =>
  ∃ n,
    World.cell? w' (Addr.add p 0) = some (Value.int IntKind.i64 n) ∧
      (6 : Int) ≠ (0 : Int) ∧
        ((Int.tmod n (6 : Int) == (0 : Int)) = true →
            ∃ n,
              World.cell? w' (Addr.add p 2) = some (Value.int IntKind.i64 n) ∧
                ∃ n_1,
                  World.cell? w' (Addr.add p 3) = some (Value.int IntKind.u64 n_1) ∧
                    Call Tryd.prog 16 [Value.pointer p0_t, Value.int IntKind.i64 n, Value.int IntKind.u64 n_1]
                      w' fun e w' =>
                      ∃ n n_2,
                        e = Ending.returned (Value.tuple #[Value.int IntKind.i64 n, Value.int IntKind.i64 n_2]) ∧
                          ∃ n_3,
                            World.cell? w' (Addr.add p 2) = some (Value.int IntKind.i64 n_3) ∧
                              ∃ n_4,
                                World.cell? w' (Addr.add p 3) = some (Value.int IntKind.u64 n_4) ∧
                                  Call Tryd.prog 23
                                    [Value.pointer p1_r, Value.int IntKind.i64 n_3, Value.int IntKind.u64 n_4] w'
                                    fun e w' =>
                                    ∃ n_5 n_6,
                                      e =
                                          Ending.returned
                                            (Value.tuple #[Value.int IntKind.i64 n_5, Value.int IntKind.i64 n_6]) ∧
                                        ((n == n_5) = true → R (Ending.returned (Value.bool (n_2 == n_6))) w') ∧
                                          ((n == n_5) = false → R (Ending.returned (Value.bool false)) w')) ∧
          ((Int.tmod n (6 : Int) == (0 : Int)) = false →
            ((Int.tmod n (6 : Int) == (1 : Int)) = true →
                ∀ (w'_1 : World),
                  World.heap w'_1 = World.heap w' →
                    World.os w'_1 = World.os w' →
                      World.tape w'_1 = World.tape w' →
                        World.output w'_1 = World.output w' →
                          ∃ n,
                            World.cell? w'_1 (Addr.add p 1) = some (Value.int IntKind.i64 n) ∧
                              ∃ n_1,
                                World.cell? w'_1 (Addr.add p 1) = some (Value.int IntKind.i64 n_1) ∧
                                  Call Tryd.prog 18 [Value.pointer p0_t, Value.int IntKind.i64 n] w'_1
                                    fun e w' =>
                                    ∃ n,
                                      e = Ending.returned (Value.int IntKind.i64 n) ∧
                                        World.cell? w' (Addr.add p 1) = some (Value.int IntKind.i64 n_1) ∧
                                          Call Tryd.prog 24 [Value.pointer p1_r, Value.int IntKind.i64 n_1] w'
                                            fun e w' =>
                                            ∃ n_2,
                                              e = Ending.returned (Value.int IntKind.i64 n_2) ∧
                                                R (Ending.returned (Value.bool (n == n_2))) w') ∧
              ((Int.tmod n (6 : Int) == (1 : Int)) = false →
                ((Int.tmod n (6 : Int) == (2 : Int)) = true →
                    ∀ (w'_1 : World),
                      World.heap w'_1 = World.heap w' →
                        World.os w'_1 = World.os w' →
                          World.tape w'_1 = World.tape w' →
                            World.output w'_1 = World.output w' →
                              ∃ n,
                                World.cell? w'_1 (Addr.add p 1) = some (Value.int IntKind.i64 n) ∧
                                  ∃ n_1,
                                    World.cell? w'_1 (Addr.add p 3) = some (Value.int IntKind.u64 n_1) ∧
                                      ∃ n_2,
                                        World.cell? w'_1 (Addr.add p 1) = some (Value.int IntKind.i64 n_2) ∧
                                          ∃ n_3,
                                            World.cell? w'_1 (Addr.add p 3) = some (Value.int IntKind.u64 n_3) ∧
                                              Call Tryd.prog 19
                                                [Value.pointer p0_t, Value.int IntKind.i64 n,
                                                  Value.int IntKind.u64 n_1]
                                                w'_1 fun e w' =>
                                                ∃ n,
                                                  e = Ending.returned (Value.int IntKind.i64 n) ∧
                                                    World.cell? w' (Addr.add p 3) =
                                                        some (Value.int IntKind.u64 n_3) ∧
                                                      World.cell? w' (Addr.add p 1) =
                                                          some (Value.int IntKind.i64 n_2) ∧
                                                        Call Tryd.prog 25
                                                          [Value.pointer p1_r, Value.int IntKind.i64 n_2,
                                                            Value.int IntKind.u64 n_3]
                                                          w' fun e w' =>
                                                          ∃ n_4,
                                                            e = Ending.returned (Value.int IntKind.i64 n_4) ∧
                                                              R (Ending.returned (Value.bool (n == n_4))) w') ∧
                  ((Int.tmod n (6 : Int) == (2 : Int)) = false →
                    ((Int.tmod n (6 : Int) == (3 : Int)) = true →
                        ∀ (w'_1 : World),
                          World.heap w'_1 = World.heap w' →
                            World.os w'_1 = World.os w' →
                              World.tape w'_1 = World.tape w' →
                                World.output w'_1 = World.output w' →
                                  ∃ n,
                                    World.cell? w'_1 (Addr.add p 1) = some (Value.int IntKind.i64 n) ∧
                                      ∃ n_1,
                                        World.cell? w'_1 (Addr.add p 4) = some (Value.int IntKind.i64 n_1) ∧
                                          ∃ b,
                                            World.cell? w'_1 (Addr.add p 5) = some (Value.bool b) ∧
                                              ∃ n_2,
                                                World.cell? w'_1 (Addr.add p 1) =
                                                    some (Value.int IntKind.i64 n_2) ∧
                                                  ∃ n_3,
                                                    World.cell? w'_1 (Addr.add p 4) =
                                                        some (Value.int IntKind.i64 n_3) ∧
                                                      ∃ b_1,
                                                        World.cell? w'_1 (Addr.add p 5) =
                                                            some (Value.bool b_1) ∧
                                                          Call Tryd.prog 20
                                                            [Value.pointer p0_t, Value.int IntKind.i64 n,
                                                              Value.int IntKind.i64 n_1, Value.bool b]
                                                            w'_1 fun e w' =>
                                                            ∃ n,
                                                              e = Ending.returned (Value.int IntKind.i64 n) ∧
                                                                World.cell? w' (Addr.add p 5) =
                                                                    some (Value.bool b_1) ∧
                                                                  World.cell? w' (Addr.add p 4) =
                                                                      some (Value.int IntKind.i64 n_3) ∧
                                                                    World.cell? w' (Addr.add p 1) =
                                                                        some (Value.int IntKind.i64 n_2) ∧
                                                                      Call Tryd.prog 26
                                                                        [Value.pointer p1_r, Value.int IntKind.i64 n_2,
                                                                          Value.int IntKind.i64 n_3, Value.bool b_1]
                                                                        w' fun e w' =>
                                                                        ∃ n_4,
                                                                          e =
                                                                              Ending.returned
                                                                                (Value.int IntKind.i64 n_4) ∧
                                                                            R (Ending.returned (Value.bool (n == n_4)))
                                                                              w') ∧
                      ((Int.tmod n (6 : Int) == (3 : Int)) = false →
                        ((Int.tmod n (6 : Int) == (4 : Int)) = true →
                            ∀ (w'_1 : World),
                              World.heap w'_1 = World.heap w' →
                                World.os w'_1 = World.os w' →
                                  World.tape w'_1 = World.tape w' →
                                    World.output w'_1 = World.output w' →
                                      ∃ n,
                                        World.cell? w'_1 (Addr.add p 1) = some (Value.int IntKind.i64 n) ∧
                                          ∃ n_1,
                                            World.cell? w'_1 (Addr.add p 4) = some (Value.int IntKind.i64 n_1) ∧
                                              ∃ n_2,
                                                World.cell? w'_1 (Addr.add p 1) =
                                                    some (Value.int IntKind.i64 n_2) ∧
                                                  ∃ n_3,
                                                    World.cell? w'_1 (Addr.add p 4) =
                                                        some (Value.int IntKind.i64 n_3) ∧
                                                      Call Tryd.prog 21
                                                        [Value.pointer p0_t, Value.int IntKind.i64 n,
                                                          Value.int IntKind.i64 n_1]
                                                        w'_1 fun e w' =>
                                                        ∃ n,
                                                          e = Ending.returned (Value.int IntKind.i64 n) ∧
                                                            World.cell? w' (Addr.add p 4) =
                                                                some (Value.int IntKind.i64 n_3) ∧
                                                              World.cell? w' (Addr.add p 1) =
                                                                  some (Value.int IntKind.i64 n_2) ∧
                                                                Call Tryd.prog 27
                                                                  [Value.pointer p1_r, Value.int IntKind.i64 n_2,
                                                                    Value.int IntKind.i64 n_3]
                                                                  w' fun e w' =>
                                                                  ∃ n_4,
                                                                    e = Ending.returned (Value.int IntKind.i64 n_4) ∧
                                                                      R (Ending.returned (Value.bool (n == n_4))) w') ∧
                          ((Int.tmod n (6 : Int) == (4 : Int)) = false →
                            ∃ n,
                              World.cell? w' (Addr.add p 1) = some (Value.int IntKind.i64 n) ∧
                                Call Tryd.prog 17 [Value.pointer p0_t, Value.int IntKind.i64 n] w' fun e w' =>
                                  ∃ n n_1,
                                    e =
                                        Ending.returned
                                          (Value.tuple #[Value.int IntKind.i64 n, Value.int IntKind.i64 n_1]) ∧
                                      ∃ n_2,
                                        World.cell? w' (Addr.add p 1) = some (Value.int IntKind.i64 n_2) ∧
                                          Call Tryd.prog 28 [Value.pointer p1_r, Value.int IntKind.i64 n_2] w'
                                            fun e w' =>
                                            ∃ n_3 n_4,
                                              e =
                                                  Ending.returned
                                                    (Value.tuple
                                                      #[Value.int IntKind.i64 n_3, Value.int IntKind.i64 n_4]) ∧
                                                ((n == n_3) = true →
                                                    R (Ending.returned (Value.bool (n_1 == n_4))) w') ∧
                                                  ((n == n_3) = false → R (Ending.returned (Value.bool false)) w'))))))) := by kernel_rfl
/-! davit/davitref01.Ints -/
def M10 : Mt := { N := 26, keep := [(0, [0, 1]), (1, [0, 1, 10]), (2, [4]), (3, [0, 1, 5]), (4, [0, 1, 5, 14]), (5, [0, 1, 5]), (6, [0, 1, 5, 25]), (7, [4]), (8, [4])], ords := [(6, [0, 1, 2, 3, 4, 5, 6, 7, 8])], bk := [(0, []), (1, [0, 1, 5])], cuts := [], lk := [(4, [0, 1, 5])] }
noncomputable def c10 : Code := bodyOf Tryd.f10
noncomputable def c10_0 : Code := c10.sr.sr.sr
noncomputable def c10_1 : Code := c10.sr.sr.sl.sr.sl.sl
def e10_1 (p0_a_a : Option Addr) (p0_a_n : Nat) (p0_a_c : Nat) (p1_b_a : Option Addr) (p1_b_n : Nat) (p1_b_c : Nat) (p5_i : Int) : Env := [(0, SV.v (Value.slice p0_a_a p0_a_n p0_a_c)), (1, SV.v (Value.slice p1_b_a p1_b_n p1_b_c)), (5, SV.v (Value.int IntKind.i64 p5_i))]
def k10_1 (R : Ending → World → Prop) : Cont := blockK 0 [] (seqK (fun E w => cutB (findL M10.cuts (headReg c10_0)) Tryd.prog M10 c10_0 E w (retK Tryd.prog Tryd.f10.results.toList R) fun E => den Tryd.prog M10 c10_0 E w (retK Tryd.prog Tryd.f10.results.toList R)) (retK Tryd.prog Tryd.f10.results.toList R))
theorem b10 : Tryd.f10.body = some c10 := by kernel_rfl
theorem n10 : Tryd.f10.ntmps = M10.N := by kernel_rfl
theorem u10 {p0_a_a : Option Addr} {p0_a_n : Nat} {p0_a_c : Nat} {p1_b_a : Option Addr} {p1_b_n : Nat} {p1_b_c : Nat} {w : World} {R : Ending → World → Prop} (h : den Tryd.prog M10 c10 (argE 0 [(Value.slice p0_a_a p0_a_n p0_a_c), (Value.slice p1_b_a p1_b_n p1_b_c)]) w (retK Tryd.prog Tryd.f10.results.toList R)) : Calls Tryd.prog 10 #[(Value.slice p0_a_a p0_a_n p0_a_c), (Value.slice p1_b_a p1_b_n p1_b_c)] w R := calls_den okProg Tryd.func10 b10 n10 (Nat.le_of_ble_eq_true rfl) h
theorem t10 (p0_a_a : Option Addr) (p0_a_n : Nat) (p0_a_c : Nat) (p1_b_a : Option Addr) (p1_b_n : Nat) (p1_b_c : Nat) (w : World) (R : Ending → World → Prop) : den Tryd.prog M10 c10 (argE 0 [(Value.slice p0_a_a p0_a_n p0_a_c), (Value.slice p1_b_a p1_b_n p1_b_c)]) w (retK Tryd.prog Tryd.f10.results.toList R) =
((((↑p0_a_n : Int) != (↑p1_b_n : Int)) = true → R (Ending.returned (Value.bool false)) w) ∧
  (((↑p0_a_n : Int) != (↑p1_b_n : Int)) = false →
    Cut
      (WP Tryd.prog 26 (Code.loop c10_1) (e10_1 p0_a_a p0_a_n p0_a_c p1_b_a p1_b_n p1_b_c (0 : Int)) w
        (k10_1 R)))) := by kernel_rfl
theorem t10_1 (p0_a_a : Option Addr) (p0_a_n : Nat) (p0_a_c : Nat) (p1_b_a : Option Addr) (p1_b_n : Nat) (p1_b_c : Nat) (p5_i : Int) (w : World) (B10_1 : Env → World → Prop) (R : Ending → World → Prop) : den Tryd.prog M10 c10_1 (e10_1 p0_a_a p0_a_n p0_a_c p1_b_a p1_b_n p1_b_c p5_i) w (loopK B10_1 (k10_1 R)) =
((decide (p5_i < (↑p0_a_n : Int)) = true →
    ∀ (w' : World),
      World.heap w' = World.heap w →
        World.os w' = World.os w →
          World.tape w' = World.tape w →
            World.output w' = World.output w →
              ((0 : Int) ≤ p5_i ∧ p5_i < (↑p0_a_n : Int)) ∧
                ∃ a,
                  p0_a_a = some a ∧
                    ∃ n,
                      World.cell? w' (Addr.add a (Int.toNat p5_i * 1)) = some (Value.int IntKind.i64 n) ∧
                        ((0 : Int) ≤ p5_i ∧ p5_i < (↑p1_b_n : Int)) ∧
                          ∃ a,
                            p1_b_a = some a ∧
                              ∃ n_1,
                                World.cell? w' (Addr.add a (Int.toNat p5_i * 1)) =
                                    some (Value.int IntKind.i64 n_1) ∧
                                  ((n != n_1) = true → R (Ending.returned (Value.bool false)) w') ∧
                                    ((n != n_1) = false →
                                      B10_1
                                        [(0, SV.v (Value.slice p0_a_a p0_a_n p0_a_c)),
                                          (1, SV.v (Value.slice p1_b_a p1_b_n p1_b_c)),
                                          (5,
                                            SV.v
                                              (Value.int IntKind.i64 (IntKind.wrap IntKind.i64 (p5_i + (1 : Int)))))]
                                        w')) ∧
  (decide (p5_i < (↑p0_a_n : Int)) = false → R (Ending.returned (Value.bool true)) w)) := by kernel_rfl
/-! (*davit/thread.Table).List -/
def M11 : Mt := { N := 11, keep := [(0, [0]), (1, [0, 4]), (2, [2]), (3, [2])], ords := [], bk := [], cuts := [], lk := [] }
noncomputable def c11 : Code := bodyOf Tryd.f11
theorem b11 : Tryd.f11.body = some c11 := by kernel_rfl
theorem n11 : Tryd.f11.ntmps = M11.N := by kernel_rfl
theorem u11 {p0_t : Option Addr} {w : World} {R : Ending → World → Prop} (h : den Tryd.prog M11 c11 (argE 0 [(Value.pointer p0_t)]) w (retK Tryd.prog Tryd.f11.results.toList R)) : Calls Tryd.prog 11 #[(Value.pointer p0_t)] w R := calls_den okProg Tryd.func11 b11 n11 (Nat.le_of_ble_eq_true rfl) h
theorem t11 (p0_t : Option Addr) (w : World) (R : Ending → World → Prop) : den Tryd.prog M11 c11 (argE 0 [(Value.pointer p0_t)]) w (retK Tryd.prog Tryd.f11.results.toList R) =
((Option.isNone p0_t = true → R (Ending.returned (Value.slice none 0 0)) w) ∧
  (Option.isNone p0_t = false →
    ∃ a,
      p0_t = some a ∧
        ∃ p,
          World.cell? w (Addr.add (Addr.add a 0) 0) = some (Value.pointer p) ∧
            Call Tryd.prog 29 [Value.pointer p] w fun e w' =>
              ∃ p n c, e = Ending.returned (Value.slice p n c) ∧ R (Ending.returned (Value.slice p n c)) w')) := by kernel_rfl
/-! (*davit/davitref11.Table).List -/
def M12 : Mt := { N := 26, keep := [(0, [0]), (1, [0, 3]), (2, [0, 3, 4]), (3, [0, 3, 4, 11]), (4, [0, 3, 4]), (5, [0, 3, 4]), (6, [2])], ords := [], bk := [(0, [3]), (1, [0, 3, 4])], cuts := [], lk := [(3, [0, 3, 4])] }
noncomputable def c12 : Code := bodyOf Tryd.f12
noncomputable def c12_0 : Code := c12.sr.sr.sr
noncomputable def c12_1 : Code := c12.sr.sr.sl.sr.sl.sl
def e12_1 (p0_t : Option Addr) (p3_out_a : Option Addr) (p3_out_n : Nat) (p3_out_c : Nat) (p4_i : Int) : Env := [(0, SV.v (Value.pointer p0_t)), (3, SV.v (Value.slice p3_out_a p3_out_n p3_out_c)), (4, SV.v (Value.int IntKind.i64 p4_i))]
def k12_1 (R : Ending → World → Prop) : Cont := blockK 0 [3] (seqK (fun E w => cutB (findL M12.cuts (headReg c12_0)) Tryd.prog M12 c12_0 E w (retK Tryd.prog Tryd.f12.results.toList R) fun E => den Tryd.prog M12 c12_0 E w (retK Tryd.prog Tryd.f12.results.toList R)) (retK Tryd.prog Tryd.f12.results.toList R))
theorem b12 : Tryd.f12.body = some c12 := by kernel_rfl
theorem n12 : Tryd.f12.ntmps = M12.N := by kernel_rfl
theorem u12 {p0_t : Option Addr} {w : World} {R : Ending → World → Prop} (h : den Tryd.prog M12 c12 (argE 0 [(Value.pointer p0_t)]) w (retK Tryd.prog Tryd.f12.results.toList R)) : Calls Tryd.prog 12 #[(Value.pointer p0_t)] w R := calls_den okProg Tryd.func12 b12 n12 (Nat.le_of_ble_eq_true rfl) h
theorem t12 (p0_t : Option Addr) (w : World) (R : Ending → World → Prop) : den Tryd.prog M12 c12 (argE 0 [(Value.pointer p0_t)]) w (retK Tryd.prog Tryd.f12.results.toList R) =
(Cut (WP Tryd.prog 26 (Code.loop c12_1) (e12_1 p0_t none 0 0 (0 : Int)) w (k12_1 R))) := by kernel_rfl
theorem t12_1 (p0_t : Option Addr) (p3_out_a : Option Addr) (p3_out_n : Nat) (p3_out_c : Nat) (p4_i : Int) (w : World) (B12_1 : Env → World → Prop) (R : Ending → World → Prop) : den Tryd.prog M12 c12_1 (e12_1 p0_t p3_out_a p3_out_n p3_out_c p4_i) w (loopK B12_1 (k12_1 R)) =
(∃ a,
  p0_t = some a ∧
    ∃ p n c,
      World.cell? w (Addr.add a 1) = some (Value.slice p n c) ∧
        (decide (p4_i < (↑n : Int)) = true →
            ∃ a,
              p0_t = some a ∧
                ∃ p n c,
                  World.cell? w (Addr.add a 1) = some (Value.slice p n c) ∧
                    ((0 : Int) ≤ p4_i ∧ p4_i < (↑n : Int)) ∧
                      ∃ a,
                        p = some a ∧
                          ∃ n,
                            World.cell? w (Addr.add (Addr.add a (Int.toNat p4_i * 7)) 0) =
                                some (Value.int IntKind.i64 n) ∧
                              New w [Value.int IntKind.i64 n] 3 fun p w' =>
                                ∃ p_1 n c w'_1,
                                  Sem.run Tryd.prog
                                        (Builtin.append_ #[36, 36] 36
                                          #[Value.slice p3_out_a p3_out_n p3_out_c,
                                            Value.slice (some p) 1 1])
                                        w' =
                                      Result.ok (Value.slice p_1 n c) w'_1 ∧
                                    B12_1
                                      [(0, SV.v (Value.pointer p0_t)), (3, SV.v (Value.slice p_1 n c)),
                                        (4,
                                          SV.v (Value.int IntKind.i64 (IntKind.wrap IntKind.i64 (p4_i + (1 : Int)))))]
                                      w'_1) ∧
          (decide (p4_i < (↑n : Int)) = false → R (Ending.returned (Value.slice p3_out_a p3_out_n p3_out_c)) w)) := by kernel_rfl
/-! (*davit/thread.Table).Get -/
def M13 : Mt := { N := 21, keep := [(0, [0, 1, 4]), (1, [4, 6, 7]), (2, [4, 6, 7, 15]), (3, [4, 5]), (4, [4, 5])], ords := [], bk := [], cuts := [], lk := [] }
noncomputable def c13 : Code := bodyOf Tryd.f13
theorem b13 : Tryd.f13.body = some c13 := by kernel_rfl
theorem n13 : Tryd.f13.ntmps = M13.N := by kernel_rfl
theorem u13 {p0_t : Option Addr} {p1_id : Int} {w : World} {R : Ending → World → Prop} (h : den Tryd.prog M13 c13 (argE 0 [(Value.pointer p0_t), (Value.int IntKind.i64 p1_id)]) w (retK Tryd.prog Tryd.f13.results.toList R)) : Calls Tryd.prog 13 #[(Value.pointer p0_t), (Value.int IntKind.i64 p1_id)] w R := calls_den okProg Tryd.func13 b13 n13 (Nat.le_of_ble_eq_true rfl) h
theorem t13 (p0_t : Option Addr) (p1_id : Int) (w : World) (R : Ending → World → Prop) : den Tryd.prog M13 c13 (argE 0 [(Value.pointer p0_t), (Value.int IntKind.i64 p1_id)]) w (retK Tryd.prog Tryd.f13.results.toList R) =
(New w
  [Value.int IntKind.i64 0, Value.int IntKind.u64 0, Value.int IntKind.i64 0, Value.bool false,
    Value.bool false, Value.int IntKind.i64 0]
  40 fun p w' =>
  Call Tryd.prog 30 [Value.pointer p0_t, Value.int IntKind.i64 p1_id] w' fun e w' =>
    ∃ p_1 n,
      e = Ending.returned (Value.tuple #[Value.pointer p_1, Value.int IntKind.i64 n]) ∧
        ((n != (0 : Int)) = true →
            Wr w' p
              [Value.int IntKind.i64 0, Value.int IntKind.u64 0, Value.int IntKind.i64 0,
                Value.bool false, Value.bool false, Value.int IntKind.i64 0]
              fun w' =>
              ∃ n_1,
                World.cell? w' (Addr.add p 0) = some (Value.int IntKind.i64 n_1) ∧
                  ∃ n_2,
                    World.cell? w' (Addr.add p 1) = some (Value.int IntKind.u64 n_2) ∧
                      ∃ n_3,
                        World.cell? w' (Addr.add p 2) = some (Value.int IntKind.i64 n_3) ∧
                          ∃ b,
                            World.cell? w' (Addr.add p 3) = some (Value.bool b) ∧
                              ∃ b_1,
                                World.cell? w' (Addr.add p 4) = some (Value.bool b_1) ∧
                                  ∃ n_4,
                                    World.cell? w' (Addr.add p 5) = some (Value.int IntKind.i64 n_4) ∧
                                      R
                                        (Ending.returned
                                          (Value.tuple
                                            #[Value.agg
                                                #[Value.int IntKind.i64 n_1, Value.int IntKind.u64 n_2,
                                                  Value.int IntKind.i64 n_3, Value.bool b, Value.bool b_1,
                                                  Value.int IntKind.i64 n_4],
                                              Value.int IntKind.i64 n]))
                                        w') ∧
          ((n != (0 : Int)) = false →
            ∃ a,
              p_1 = some a ∧
                ∃ n,
                  World.cell? w' (Addr.add a 0) = some (Value.int IntKind.i64 n) ∧
                    ∃ n_1,
                      World.cell? w' (Addr.add a 1) = some (Value.int IntKind.u64 n_1) ∧
                        ∃ n_2,
                          World.cell? w' (Addr.add a 2) = some (Value.int IntKind.i64 n_2) ∧
                            ∃ b,
                              World.cell? w' (Addr.add a 3) = some (Value.bool b) ∧
                                ∃ b_1,
                                  World.cell? w' (Addr.add a 4) = some (Value.bool b_1) ∧
                                    ∃ n_3,
                                      World.cell? w' (Addr.add a 5) = some (Value.int IntKind.i64 n_3) ∧
                                        Wr w' p
                                          [Value.int IntKind.i64 n, Value.int IntKind.u64 n_1,
                                            Value.int IntKind.i64 n_2, Value.bool b, Value.bool b_1,
                                            Value.int IntKind.i64 n_3]
                                          fun w' =>
                                          ∃ n,
                                            World.cell? w' (Addr.add p 0) = some (Value.int IntKind.i64 n) ∧
                                              ∃ n_4,
                                                World.cell? w' (Addr.add p 1) =
                                                    some (Value.int IntKind.u64 n_4) ∧
                                                  ∃ n_5,
                                                    World.cell? w' (Addr.add p 2) =
                                                        some (Value.int IntKind.i64 n_5) ∧
                                                      ∃ b,
                                                        World.cell? w' (Addr.add p 3) = some (Value.bool b) ∧
                                                          ∃ b_2,
                                                            World.cell? w' (Addr.add p 4) =
                                                                some (Value.bool b_2) ∧
                                                              ∃ n_6,
                                                                World.cell? w' (Addr.add p 5) =
                                                                    some (Value.int IntKind.i64 n_6) ∧
                                                                  R
                                                                    (Ending.returned
                                                                      (Value.tuple
                                                                        #[Value.agg
                                                                            #[Value.int IntKind.i64 n,
                                                                              Value.int IntKind.u64 n_4,
                                                                              Value.int IntKind.i64 n_5, Value.bool b,
                                                                              Value.bool b_2,
                                                                              Value.int IntKind.i64 n_6],
                                                                          Value.int IntKind.i64 0]))
                                                                    w')) := by kernel_rfl
/-! (*davit/davitref11.Table).Find -/
def M14 : Mt := { N := 26, keep := [(0, [0, 1]), (1, [0, 1, 5]), (2, [0, 1, 5, 12]), (3, [0, 1, 5]), (4, [0, 1, 5, 24]), (5, [4]), (6, [4])], ords := [], bk := [(0, []), (1, [0, 1, 5])], cuts := [], lk := [(2, [0, 1, 5])] }
noncomputable def c14 : Code := bodyOf Tryd.f14
noncomputable def c14_0 : Code := c14.sr.sr
noncomputable def c14_1 : Code := c14.sr.sl.sr.sl.sl
def e14_1 (p0_t : Option Addr) (p1_id : Int) (p5_i : Int) : Env := [(0, SV.v (Value.pointer p0_t)), (1, SV.v (Value.int IntKind.i64 p1_id)), (5, SV.v (Value.int IntKind.i64 p5_i))]
def k14_1 (R : Ending → World → Prop) : Cont := blockK 0 [] (seqK (fun E w => cutB (findL M14.cuts (headReg c14_0)) Tryd.prog M14 c14_0 E w (retK Tryd.prog Tryd.f14.results.toList R) fun E => den Tryd.prog M14 c14_0 E w (retK Tryd.prog Tryd.f14.results.toList R)) (retK Tryd.prog Tryd.f14.results.toList R))
theorem b14 : Tryd.f14.body = some c14 := by kernel_rfl
theorem n14 : Tryd.f14.ntmps = M14.N := by kernel_rfl
theorem u14 {p0_t : Option Addr} {p1_id : Int} {w : World} {R : Ending → World → Prop} (h : den Tryd.prog M14 c14 (argE 0 [(Value.pointer p0_t), (Value.int IntKind.i64 p1_id)]) w (retK Tryd.prog Tryd.f14.results.toList R)) : Calls Tryd.prog 14 #[(Value.pointer p0_t), (Value.int IntKind.i64 p1_id)] w R := calls_den okProg Tryd.func14 b14 n14 (Nat.le_of_ble_eq_true rfl) h
theorem t14 (p0_t : Option Addr) (p1_id : Int) (w : World) (R : Ending → World → Prop) : den Tryd.prog M14 c14 (argE 0 [(Value.pointer p0_t), (Value.int IntKind.i64 p1_id)]) w (retK Tryd.prog Tryd.f14.results.toList R) =
(Cut (WP Tryd.prog 26 (Code.loop c14_1) (e14_1 p0_t p1_id (0 : Int)) w (k14_1 R))) := by kernel_rfl
theorem t14_1 (p0_t : Option Addr) (p1_id : Int) (p5_i : Int) (w : World) (B14_1 : Env → World → Prop) (R : Ending → World → Prop) : den Tryd.prog M14 c14_1 (e14_1 p0_t p1_id p5_i) w (loopK B14_1 (k14_1 R)) =
(∃ a,
  p0_t = some a ∧
    ∃ p n c,
      World.cell? w (Addr.add a 1) = some (Value.slice p n c) ∧
        (decide (p5_i < (↑n : Int)) = true →
            ∃ a,
              p0_t = some a ∧
                ∃ p n c,
                  World.cell? w (Addr.add a 1) = some (Value.slice p n c) ∧
                    ((0 : Int) ≤ p5_i ∧ p5_i < (↑n : Int)) ∧
                      ∃ a,
                        p = some a ∧
                          ∃ n,
                            World.cell? w (Addr.add (Addr.add a (Int.toNat p5_i * 7)) 0) =
                                some (Value.int IntKind.i64 n) ∧
                              ((n == p1_id) = true → R (Ending.returned (Value.int IntKind.i64 p5_i)) w) ∧
                                ((n == p1_id) = false →
                                  B14_1
                                    [(0, SV.v (Value.pointer p0_t)),
                                      (1, SV.v (Value.int IntKind.i64 p1_id)),
                                      (5,
                                        SV.v (Value.int IntKind.i64 (IntKind.wrap IntKind.i64 (p5_i + (1 : Int)))))]
                                    w)) ∧
          (decide (p5_i < (↑n : Int)) = false → R (Ending.returned (Value.int IntKind.i64 (-1 : Int))) w)) := by kernel_rfl
/-! davit/davitlaw11.same -/
def M15 : Mt := { N := 45, keep := [(0, [2, 3]), (1, [4])], ords := [], bk := [], cuts := [], lk := [] }
noncomputable def c15 : Code := bodyOf Tryd.f15
theorem b15 : Tryd.f15.body = some c15 := by kernel_rfl
theorem n15 : Tryd.f15.ntmps = M15.N := by kernel_rfl
theorem u15 {p0_x_0 : Int} {p0_x_1 : Int} {p0_x_2 : Int} {p0_x_3 : Bool} {p0_x_4 : Bool} {p0_x_5 : Int} {p1_y_0 : Int} {p1_y_1 : Int} {p1_y_2 : Int} {p1_y_3 : Int} {p1_y_4 : Bool} {p1_y_5 : Bool} {p1_y_6 : Int} {w : World} {R : Ending → World → Prop} (h : den Tryd.prog M15 c15 (argE 0 [(Value.agg #[(Value.int IntKind.i64 p0_x_0), (Value.int IntKind.u64 p0_x_1), (Value.int IntKind.i64 p0_x_2), (Value.bool p0_x_3), (Value.bool p0_x_4), (Value.int IntKind.i64 p0_x_5)]), (Value.agg #[(Value.int IntKind.i64 p1_y_0), (Value.int IntKind.i64 p1_y_1), (Value.int IntKind.u64 p1_y_2), (Value.int IntKind.i64 p1_y_3), (Value.bool p1_y_4), (Value.bool p1_y_5), (Value.int IntKind.i64 p1_y_6)])]) w (retK Tryd.prog Tryd.f15.results.toList R)) : Calls Tryd.prog 15 #[(Value.agg #[(Value.int IntKind.i64 p0_x_0), (Value.int IntKind.u64 p0_x_1), (Value.int IntKind.i64 p0_x_2), (Value.bool p0_x_3), (Value.bool p0_x_4), (Value.int IntKind.i64 p0_x_5)]), (Value.agg #[(Value.int IntKind.i64 p1_y_0), (Value.int IntKind.i64 p1_y_1), (Value.int IntKind.u64 p1_y_2), (Value.int IntKind.i64 p1_y_3), (Value.bool p1_y_4), (Value.bool p1_y_5), (Value.int IntKind.i64 p1_y_6)])] w R := calls_den okProg Tryd.func15 b15 n15 (Nat.le_of_ble_eq_true rfl) h
theorem t15 (p0_x_0 : Int) (p0_x_1 : Int) (p0_x_2 : Int) (p0_x_3 : Bool) (p0_x_4 : Bool) (p0_x_5 : Int) (p1_y_0 : Int) (p1_y_1 : Int) (p1_y_2 : Int) (p1_y_3 : Int) (p1_y_4 : Bool) (p1_y_5 : Bool) (p1_y_6 : Int) (w : World) (R : Ending → World → Prop) : den Tryd.prog M15 c15 (argE 0 [(Value.agg #[(Value.int IntKind.i64 p0_x_0), (Value.int IntKind.u64 p0_x_1), (Value.int IntKind.i64 p0_x_2), (Value.bool p0_x_3), (Value.bool p0_x_4), (Value.int IntKind.i64 p0_x_5)]), (Value.agg #[(Value.int IntKind.i64 p1_y_0), (Value.int IntKind.i64 p1_y_1), (Value.int IntKind.u64 p1_y_2), (Value.int IntKind.i64 p1_y_3), (Value.bool p1_y_4), (Value.bool p1_y_5), (Value.int IntKind.i64 p1_y_6)])]) w (retK Tryd.prog Tryd.f15.results.toList R) =
(New w
  [Value.int IntKind.i64 p0_x_0, Value.int IntKind.u64 p0_x_1, Value.int IntKind.i64 p0_x_2, Value.bool p0_x_3,
    Value.bool p0_x_4, Value.int IntKind.i64 p0_x_5]
  40 fun p w' =>
  New w'
    [Value.int IntKind.i64 p1_y_0, Value.int IntKind.i64 p1_y_1, Value.int IntKind.u64 p1_y_2,
      Value.int IntKind.i64 p1_y_3, Value.bool p1_y_4, Value.bool p1_y_5, Value.int IntKind.i64 p1_y_6]
    46 fun p_1 w' =>
    ∃ n,
      World.cell? w' (Addr.add p 0) = some (Value.int IntKind.i64 n) ∧
        ∃ n_1,
          World.cell? w' (Addr.add p_1 1) = some (Value.int IntKind.i64 n_1) ∧
            ((n == n_1) = true →
                ∃ n,
                  World.cell? w' (Addr.add p 1) = some (Value.int IntKind.u64 n) ∧
                    ∃ n_2,
                      World.cell? w' (Addr.add p_1 2) = some (Value.int IntKind.u64 n_2) ∧
                        ((n == n_2) = true →
                            ∃ n,
                              World.cell? w' (Addr.add p 2) = some (Value.int IntKind.i64 n) ∧
                                ∃ n_3,
                                  World.cell? w' (Addr.add p_1 3) = some (Value.int IntKind.i64 n_3) ∧
                                    ((n == n_3) = true →
                                        ∃ b,
                                          World.cell? w' (Addr.add p 3) = some (Value.bool b) ∧
                                            ∃ b_1,
                                              World.cell? w' (Addr.add p_1 4) = some (Value.bool b_1) ∧
                                                ((b == b_1) = true →
                                                    ∃ b,
                                                      World.cell? w' (Addr.add p 4) = some (Value.bool b) ∧
                                                        ∃ b_2,
                                                          World.cell? w' (Addr.add p_1 5) =
                                                              some (Value.bool b_2) ∧
                                                            ((b == b_2) = true →
                                                                ∃ n,
                                                                  World.cell? w' (Addr.add p 5) =
                                                                      some (Value.int IntKind.i64 n) ∧
                                                                    ∃ n_4,
                                                                      World.cell? w' (Addr.add p_1 6) =
                                                                          some (Value.int IntKind.i64 n_4) ∧
                                                                        R (Ending.returned (Value.bool (n == n_4)))
                                                                          w') ∧
                                                              ((b == b_2) = false →
                                                                R (Ending.returned (Value.bool false)) w')) ∧
                                                  ((b == b_1) = false → R (Ending.returned (Value.bool false)) w')) ∧
                                      ((n == n_3) = false → R (Ending.returned (Value.bool false)) w')) ∧
                          ((n == n_2) = false → R (Ending.returned (Value.bool false)) w')) ∧
              ((n == n_1) = false → R (Ending.returned (Value.bool false)) w')) := by kernel_rfl
/-! (*davit/thread.Table).Spawn -/
def M16 : Mt := { N := 48, keep := [(0, [0, 1, 2]), (1, [0, 1, 2, 10]), (2, [6, 7]), (3, [0, 1, 2, 13]), (4, [6, 7]), (5, [0, 1, 2, 8, 9]), (6, [0, 1, 2, 8, 9, 36]), (7, [6, 7]), (8, [8]), (9, [6, 7])], ords := [], bk := [(0, [0, 1, 2])], cuts := [], lk := [] }
noncomputable def c16 : Code := bodyOf Tryd.f16
theorem b16 : Tryd.f16.body = some c16 := by kernel_rfl
theorem n16 : Tryd.f16.ntmps = M16.N := by kernel_rfl
theorem u16 {p0_t : Option Addr} {p1_prio : Int} {p2_m : Int} {w : World} {R : Ending → World → Prop} (h : den Tryd.prog M16 c16 (argE 0 [(Value.pointer p0_t), (Value.int IntKind.i64 p1_prio), (Value.int IntKind.u64 p2_m)]) w (retK Tryd.prog Tryd.f16.results.toList R)) : Calls Tryd.prog 16 #[(Value.pointer p0_t), (Value.int IntKind.i64 p1_prio), (Value.int IntKind.u64 p2_m)] w R := calls_den okProg Tryd.func16 b16 n16 (Nat.le_of_ble_eq_true rfl) h
theorem t16 (p0_t : Option Addr) (p1_prio : Int) (p2_m : Int) (w : World) (R : Ending → World → Prop) : den Tryd.prog M16 c16 (argE 0 [(Value.pointer p0_t), (Value.int IntKind.i64 p1_prio), (Value.int IntKind.u64 p2_m)]) w (retK Tryd.prog Tryd.f16.results.toList R) =
((Option.isNone p0_t = true →
    R (Ending.returned (Value.tuple #[Value.int IntKind.i64 0, Value.int IntKind.i64 1])) w) ∧
  (Option.isNone p0_t = false →
    (decide (p1_prio < (0 : Int)) = false →
        (decide (p1_prio ≥ (8 : Int)) = false →
            Call Tryd.prog 31 [Value.pointer p0_t, Value.int IntKind.u64 p2_m] w fun e w' =>
              ∃ b,
                e = Ending.returned (Value.bool b) ∧
                  ((!b) = true →
                      R
                        (Ending.returned
                          (Value.tuple #[Value.int IntKind.i64 0, Value.int IntKind.i64 2]))
                        w') ∧
                    ((!b) = false →
                      ∃ a,
                        p0_t = some a ∧
                          ∃ p,
                            World.cell? w' (Addr.add (Addr.add a 0) 0) = some (Value.pointer p) ∧
                              Call Tryd.prog 32 [Value.pointer p] w' fun e w' =>
                                ∃ n n_1,
                                  e =
                                      Ending.returned
                                        (Value.tuple #[Value.int IntKind.i64 n, Value.int IntKind.i64 n_1]) ∧
                                    ((n_1 != (0 : Int)) = true →
                                        R
                                          (Ending.returned
                                            (Value.tuple #[Value.int IntKind.i64 0, Value.int IntKind.i64 n_1]))
                                          w') ∧
                                      ((n_1 != (0 : Int)) = false →
                                        ∃ a,
                                          p0_t = some a ∧
                                            ∃ r,
                                              World.cell? w' (Addr.add a 2) = some (Value.map r) ∧
                                                New w'
                                                  [Value.int IntKind.i64 p1_prio, Value.int IntKind.u64 p2_m,
                                                    Value.int IntKind.i64 0, Value.bool false, Value.bool false,
                                                    Value.int IntKind.i64 0]
                                                  40 fun p w' =>
                                                  ∃ w'_1,
                                                    Sem.run Tryd.prog
                                                          (Instr.mapUpdate 66 (Value.map r)
                                                            (Value.int IntKind.i64 n) (Value.pointer (some p)))
                                                          w' =
                                                        Result.ok () w'_1 ∧
                                                      R
                                                        (Ending.returned
                                                          (Value.tuple
                                                            #[Value.int IntKind.i64 n,
                                                              Value.int IntKind.i64 0]))
                                                        w'_1))) ∧
          (decide (p1_prio ≥ (8 : Int)) = true →
            R (Ending.returned (Value.tuple #[Value.int IntKind.i64 0, Value.int IntKind.i64 2]))
              w)) ∧
      (decide (p1_prio < (0 : Int)) = true →
        R (Ending.returned (Value.tuple #[Value.int IntKind.i64 0, Value.int IntKind.i64 2])) w))) := by kernel_rfl
end Go.Dav
