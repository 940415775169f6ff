/- What functions of the program come to. -/
import Derived.Test.YtgakbnonkgohfaaDoorPrg10d
namespace Go.Dav
open Go.Proofs
/-! davit/davitlaw10.RunqPlays -/
def M3 : Mt := { N := 197, keep := [(0, [0, 1, 2]), (1, [0, 1, 2, 7, 8]), (2, [1, 2, 7, 8, 9, 10]), (3, [1, 2, 7, 9, 48]), (4, [6]), (5, [1, 2, 7, 9, 50]), (6, [6]), (7, [1, 2, 7, 9, 11]), (8, [1, 2, 7, 9, 11, 59]), (9, [1, 2, 7, 9, 11]), (10, [1, 2, 7, 9, 11, 12]), (11, [1, 2, 7, 9, 11, 12, 70]), (12, [6]), (13, [1, 2, 7, 9, 11, 12, 13, 14]), (14, [1, 2, 7, 9, 11, 12, 13, 14, 15, 16]), (15, [1, 2, 7, 9, 11, 12, 13, 14, 15, 16, 17, 18]), (16, [1, 2, 7, 9, 11, 12, 13, 14, 15, 16, 17, 18, 19, 20]), (17, [1, 2, 7, 9, 11, 151]), (18, [6]), (19, [2, 7, 9, 21, 22]), (20, [2, 7, 9, 21, 22, 23, 24]), (21, [2, 9, 21, 22, 23, 24, 25, 26]), (22, [21, 22, 23, 24, 25, 26, 27, 28]), (23, [6])], ords := [(17, [0, 1, 2, 3, 4, 5, 6, 7, 8, 9, 10, 11, 12, 13, 14, 15, 16, 17, 18, 19, 20, 21, 23, 24, 25, 22, 26, 27, 28, 29, 30, 31, 32, 34, 35, 36, 33, 37, 38, 39, 40, 41, 42, 43, 44, 46, 47, 48, 45, 49, 50, 51, 52])], bk := [(0, [2, 7, 9]), (1, [1, 2, 7, 9, 11])], cuts := [(19, [2, 7, 9])], lk := [(8, [1, 2, 7, 9, 11])] }
noncomputable def c3 : Code := bodyOf Tryd.f3
noncomputable def c3_0 : Code := c3.sr.sr.sr.sr.sr.sr
noncomputable def c3_1 : Code := c3.sr.sr.sr.sr.sr.sl.sr.sl.sl
def e3_0 (p2_of : Int) (p7_q : Option Addr) (p9_r : Option Addr) : Env := [(2, SV.v (Value.int IntKind.u64 p2_of)), (7, SV.v (Value.pointer p7_q)), (9, SV.v (Value.pointer p9_r))]
def e3_1 (p1_acts_a : Option Addr) (p1_acts_n : Nat) (p1_acts_c : Nat) (p2_of : Int) (p7_q : Option Addr) (p9_r : Option Addr) (p11_i : Int) : Env := [(1, SV.v (Value.slice p1_acts_a p1_acts_n p1_acts_c)), (2, SV.v (Value.int IntKind.u64 p2_of)), (7, SV.v (Value.pointer p7_q)), (9, SV.v (Value.pointer p9_r)), (11, SV.v (Value.int IntKind.i64 p11_i))]
def k3_0 (R : Ending → World → Prop) : Cont := retK Tryd.prog Tryd.f3.results.toList R
def k3_1 (R : Ending → World → Prop) : Cont := blockK 0 [2, 7, 9] (seqK (fun E w => cutB (findL M3.cuts (headReg c3_0)) Tryd.prog M3 c3_0 E w (retK Tryd.prog Tryd.f3.results.toList R) fun E => den Tryd.prog M3 c3_0 E w (retK Tryd.prog Tryd.f3.results.toList R)) (retK Tryd.prog Tryd.f3.results.toList R))
theorem b3 : Tryd.f3.body = some c3 := by kernel_rfl
theorem n3 : Tryd.f3.ntmps = M3.N := by kernel_rfl
set_option maxRecDepth 100000 in
theorem u3 {p0_cpus : Int} {p1_acts_a : Option Addr} {p1_acts_n : Nat} {p1_acts_c : Nat} {p2_of : Int} {w : World} {R : Ending → World → Prop} (h : den Tryd.prog M3 c3 (argE 0 [(Value.int IntKind.i64 p0_cpus), (Value.slice p1_acts_a p1_acts_n p1_acts_c), (Value.int IntKind.u64 p2_of)]) w (retK Tryd.prog Tryd.f3.results.toList R)) : Calls Tryd.prog 3 #[(Value.int IntKind.i64 p0_cpus), (Value.slice p1_acts_a p1_acts_n p1_acts_c), (Value.int IntKind.u64 p2_of)] w R := calls_den okProg Tryd.func3 b3 n3 (Nat.le_of_ble_eq_true rfl) h
theorem t3 (p0_cpus : Int) (p1_acts_a : Option Addr) (p1_acts_n : Nat) (p1_acts_c : Nat) (p2_of : Int) (w : World) (R : Ending → World → Prop) : den Tryd.prog M3 c3 (argE 0 [(Value.int IntKind.i64 p0_cpus), (Value.slice p1_acts_a p1_acts_n p1_acts_c), (Value.int IntKind.u64 p2_of)]) w (retK Tryd.prog Tryd.f3.results.toList R) =
(Call Tryd.prog 5 [Value.int IntKind.i64 p0_cpus] w fun e w' =>
  ∃ p n,
    e = Ending.returned (Value.tuple #[Value.pointer p, Value.int IntKind.i64 n]) ∧
      Call Tryd.prog 6 [Value.int IntKind.i64 p0_cpus] w' fun e w' =>
        ∃ p_1 n_1,
          e = Ending.returned (Value.tuple #[Value.pointer p_1, Value.int IntKind.i64 n_1]) ∧
            ((n != n_1) = false →
                ((!Option.isNone p == Option.isNone p_1) = true → R (Ending.returned (Value.bool false)) w') ∧
                  ((!Option.isNone p == Option.isNone p_1) = false →
                    (Option.isNone p_1 = true →
                        Call Tryd.prog 7 [] w' fun e w' =>
                          ∃ b, e = Ending.returned (Value.bool b) ∧ R (Ending.returned (Value.bool b)) w') ∧
                      (Option.isNone p_1 = false →
                        Cut
                          (WP Tryd.prog 197 (Code.loop c3_1)
                            (e3_1 p1_acts_a p1_acts_n p1_acts_c p2_of p p_1 (0 : Int)) w' (k3_1 R))))) ∧
              ((n != n_1) = true → R (Ending.returned (Value.bool false)) w')) := by kernel_rfl
theorem t3_0 (p2_of : Int) (p7_q : Option Addr) (p9_r : Option Addr) (w : World) (R : Ending → World → Prop) : den Tryd.prog M3 c3_0 (e3_0 p2_of p7_q p9_r) w (k3_0 R) =
(Call Tryd.prog 18 [Value.pointer p7_q, Value.int IntKind.u64 p2_of] w fun e w' =>
  ∃ n n_1,
    e = Ending.returned (Value.tuple #[Value.int IntKind.i64 n, Value.int IntKind.i64 n_1]) ∧
      Call Tryd.prog 19 [Value.pointer p9_r, Value.int IntKind.u64 p2_of] w' fun e w' =>
        ∃ n_2 n_3,
          e = Ending.returned (Value.tuple #[Value.int IntKind.i64 n_2, Value.int IntKind.i64 n_3]) ∧
            Call Tryd.prog 20 [Value.pointer p7_q, Value.int IntKind.u64 p2_of] w' fun e w' =>
              ∃ n_4 n_5,
                e = Ending.returned (Value.tuple #[Value.int IntKind.i64 n_4, Value.int IntKind.i64 n_5]) ∧
                  Call Tryd.prog 21 [Value.pointer p9_r, Value.int IntKind.u64 p2_of] w' fun e w' =>
                    ∃ n_6 n_7,
                      e = Ending.returned (Value.tuple #[Value.int IntKind.i64 n_6, Value.int IntKind.i64 n_7]) ∧
                        ((n == n_2) = true →
                            ((n_1 == n_3) = true →
                                ((n_4 == n_6) = true →
                                    ((n_5 == n_7) = true →
                                        Call Tryd.prog 7 [] w' fun e w' =>
                                          ∃ b,
                                            e = Ending.returned (Value.bool b) ∧
                                              R (Ending.returned (Value.bool b)) w') ∧
                                      ((n_5 == n_7) = false → R (Ending.returned (Value.bool false)) w')) ∧
                                  ((n_4 == n_6) = false → R (Ending.returned (Value.bool false)) w')) ∧
                              ((n_1 == n_3) = false → R (Ending.returned (Value.bool false)) w')) ∧
                          ((n == n_2) = false → R (Ending.returned (Value.bool false)) w')) := by kernel_rfl
theorem t3_1 (p1_acts_a : Option Addr) (p1_acts_n : Nat) (p1_acts_c : Nat) (p2_of : Int) (p7_q : Option Addr) (p9_r : Option Addr) (p11_i : Int) (w : World) (B3_1 : Env → World → Prop) (R : Ending → World → Prop) : den Tryd.prog M3 c3_1 (e3_1 p1_acts_a p1_acts_n p1_acts_c p2_of p7_q p9_r p11_i) w (loopK B3_1 (k3_1 R)) =
((decide (p11_i < (↑p1_acts_n : Int)) = true →
    (decide (p11_i < (100 : Int)) = true →
        ((0 : Int) ≤ p11_i ∧ p11_i < (↑p1_acts_n : Int)) ∧
          ∃ a,
            p1_acts_a = some a ∧
              ∃ n,
                World.cell? w (Addr.add (Addr.add a (Int.toNat p11_i * 5)) 0) =
                    some (Value.int IntKind.i64 n) ∧
                  ∃ n_1,
                    World.cell? w (Addr.add (Addr.add a (Int.toNat p11_i * 5)) 1) =
                        some (Value.int IntKind.i64 n_1) ∧
                      ∃ n_2,
                        World.cell? w (Addr.add (Addr.add a (Int.toNat p11_i * 5)) 2) =
                            some (Value.int IntKind.i64 n_2) ∧
                          ∃ n_3,
                            World.cell? w (Addr.add (Addr.add a (Int.toNat p11_i * 5)) 3) =
                                some (Value.int IntKind.i64 n_3) ∧
                              ∃ n_4,
                                World.cell? w (Addr.add (Addr.add a (Int.toNat p11_i * 5)) 4) =
                                    some (Value.int IntKind.i64 n_4) ∧
                                  New w
                                    [Value.int IntKind.i64 0, Value.int IntKind.i64 0,
                                      Value.int IntKind.i64 0, Value.int IntKind.i64 0,
                                      Value.int IntKind.i64 0]
                                    33 fun p w' =>
                                    Wr w' p
                                      [Value.int IntKind.i64 n, Value.int IntKind.i64 n_1, Value.int IntKind.i64 n_2,
                                        Value.int IntKind.i64 n_3, Value.int IntKind.i64 n_4]
                                      fun w' =>
                                      ∃ n,
                                        World.cell? w' (Addr.add p 0) = some (Value.int IntKind.i64 n) ∧
                                          ∃ n_5,
                                            World.cell? w' (Addr.add p 1) = some (Value.int IntKind.i64 n_5) ∧
                                              ∃ n_6,
                                                World.cell? w' (Addr.add p 2) =
                                                    some (Value.int IntKind.i64 n_6) ∧
                                                  ∃ n_7,
                                                    World.cell? w' (Addr.add p 3) =
                                                        some (Value.int IntKind.i64 n_7) ∧
                                                      ∃ n_8,
                                                        World.cell? w' (Addr.add p 4) =
                                                            some (Value.int IntKind.i64 n_8) ∧
                                                          Call Tryd.prog 8
                                                            [Value.pointer p7_q, Value.pointer p9_r,
                                                              Value.agg
                                                                #[Value.int IntKind.i64 n, Value.int IntKind.i64 n_5,
                                                                  Value.int IntKind.i64 n_6, Value.int IntKind.i64 n_7,
                                                                  Value.int IntKind.i64 n_8]]
                                                            w' fun e w' =>
                                                            ∃ b,
                                                              e = Ending.returned (Value.bool b) ∧
                                                                ((!b) = true →
                                                                    R (Ending.returned (Value.bool false)) w') ∧
                                                                  ((!b) = false →
                                                                    ∃ n,
                                                                      World.cell? w' (Addr.add p 4) =
                                                                          some (Value.int IntKind.i64 n) ∧
                                                                        Call Tryd.prog 9
                                                                          [Value.pointer p7_q, Value.int IntKind.i64 n]
                                                                          w' fun e w' =>
                                                                          ∃ n b,
                                                                            e =
                                                                                Ending.returned
                                                                                  (Value.tuple
                                                                                    #[Value.int IntKind.i64 n,
                                                                                      Value.bool b]) ∧
                                                                              ∃ n_9,
                                                                                World.cell? w' (Addr.add p 4) =
                                                                                    some (Value.int IntKind.i64 n_9) ∧
                                                                                  Call Tryd.prog 10
                                                                                    [Value.pointer p9_r,
                                                                                      Value.int IntKind.i64 n_9]
                                                                                    w' fun e w' =>
                                                                                    ∃ n_10 b_1,
                                                                                      e =
                                                                                          Ending.returned
                                                                                            (Value.tuple
                                                                                              #[Value.int IntKind.i64
                                                                                                  n_10,
                                                                                                Value.bool b_1]) ∧
                                                                                        ∃ n_11,
                                                                                          World.cell? w'
                                                                                                (Addr.add p 4) =
                                                                                              some
                                                                                                (Value.int IntKind.i64
                                                                                                  n_11) ∧
                                                                                            Call Tryd.prog 11
                                                                                              [Value.pointer p7_q,
                                                                                                Value.int IntKind.i64
                                                                                                  n_11]
                                                                                              w' fun e w' =>
                                                                                              ∃ n_12 b_2,
                                                                                                e =
                                                                                                    Ending.returned
                                                                                                      (Value.tuple
                                                                                                        #[Value.int
                                                                                                            IntKind.i64
                                                                                                            n_12,
                                                                                                          Value.bool
                                                                                                            b_2]) ∧
                                                                                                  ∃ n_13,
                                                                                                    World.cell? w'
                                                                                                          (Addr.add p
                                                                                                            4) =
                                                                                                        some
                                                                                                          (Value.int
                                                                                                            IntKind.i64
                                                                                                            n_13) ∧
                                                                                                      Call Tryd.prog
                                                                                                        12
                                                                                                        [Value.pointer
                                                                                                            p9_r,
                                                                                                          Value.int
                                                                                                            IntKind.i64
                                                                                                            n_13]
                                                                                                        w' fun e w' =>
                                                                                                        ∃ n_14 b_3,
                                                                                                          e =
                                                                                                              Ending.returned
                                                                                                                (Value.tuple
                                                                                                                  #[Value.int
                                                                                                                      IntKind.i64
                                                                                                                      n_14,
                                                                                                                    Value.bool
                                                                                                                      b_3]) ∧
                                                                                                            ∀
                                                                                                              (w'_1 :
                                                                                                                World),
                                                                                                              World.heap
                                                                                                                    w'_1 =
                                                                                                                  World.heap
                                                                                                                    w' →
                                                                                                                World.os
                                                                                                                      w'_1 =
                                                                                                                    World.os
                                                                                                                      w' →
                                                                                                                  World.tape
                                                                                                                        w'_1 =
                                                                                                                      World.tape
                                                                                                                        w' →
                                                                                                                    World.output
                                                                                                                          w'_1 =
                                                                                                                        World.output
                                                                                                                          w' →
                                                                                                                      ((n !=
                                                                                                                              n_10) =
                                                                                                                            false →
                                                                                                                          ((!b ==
                                                                                                                                    b_1) =
                                                                                                                                false →
                                                                                                                              ((n_12 !=
                                                                                                                                      n_14) =
                                                                                                                                    false →
                                                                                                                                  ((!b_2 ==
                                                                                                                                            b_3) =
                                                                                                                                        false →
                                                                                                                                      ∃
                                                                                                                                        n,
                                                                                                                                        World.cell?
                                                                                                                                              w'_1
                                                                                                                                              (Addr.add
                                                                                                                                                p
                                                                                                                                                1) =
                                                                                                                                            some
                                                                                                                                              (Value.int
                                                                                                                                                IntKind.i64
                                                                                                                                                n) ∧
                                                                                                                                          ∃
                                                                                                                                            n_15,
                                                                                                                                            World.cell?
                                                                                                                                                  w'_1
                                                                                                                                                  (Addr.add
                                                                                                                                                    p
                                                                                                                                                    1) =
                                                                                                                                                some
                                                                                                                                                  (Value.int
                                                                                                                                                    IntKind.i64
                                                                                                                                                    n_15) ∧
                                                                                                                                              Call
                                                                                                                                                Tryd.prog
                                                                                                                                                13
                                                                                                                                                [Value.pointer
                                                                                                                                                    p7_q,
                                                                                                                                                  Value.int
                                                                                                                                                    IntKind.i64
                                                                                                                                                    n]
                                                                                                                                                w'_1
                                                                                                                                                fun
                                                                                                                                                  e
                                                                                                                                                  w' =>
                                                                                                                                                ∃
                                                                                                                                                  n,
                                                                                                                                                  e =
                                                                                                                                                      Ending.returned
                                                                                                                                                        (Value.int
                                                                                                                                                          IntKind.i64
                                                                                                                                                          n) ∧
                                                                                                                                                    World.cell?
                                                                                                                                                          w'
                                                                                                                                                          (Addr.add
                                                                                                                                                            p
                                                                                                                                                            1) =
                                                                                                                                                        some
                                                                                                                                                          (Value.int
                                                                                                                                                            IntKind.i64
                                                                                                                                                            n_15) ∧
                                                                                                                                                      Call
                                                                                                                                                        Tryd.prog
                                                                                                                                                        14
                                                                                                                                                        [Value.pointer
                                                                                                                                                            p9_r,
                                                                                                                                                          Value.int
                                                                                                                                                            IntKind.i64
                                                                                                                                                            n_15]
                                                                                                                                                        w'
                                                                                                                                                        fun
                                                                                                                                                          e
                                                                                                                                                          w' =>
                                                                                                                                                        ∃
                                                                                                                                                          n_16,
                                                                                                                                                          e =
                                                                                                                                                              Ending.returned
                                                                                                                                                                (Value.int
                                                                                                                                                                  IntKind.i64
                                                                                                                                                                  n_16) ∧
                                                                                                                                                            ((n !=
                                                                                                                                                                    n_16) =
                                                                                                                                                                  false →
                                                                                                                                                                ∃
                                                                                                                                                                  n,
                                                                                                                                                                  World.cell?
                                                                                                                                                                        w'
                                                                                                                                                                        (Addr.add
                                                                                                                                                                          p
                                                                                                                                                                          1) =
                                                                                                                                                                      some
                                                                                                                                                                        (Value.int
                                                                                                                                                                          IntKind.i64
                                                                                                                                                                          n) ∧
                                                                                                                                                                    ∃
                                                                                                                                                                      n_17,
                                                                                                                                                                      World.cell?
                                                                                                                                                                            w'
                                                                                                                                                                            (Addr.add
                                                                                                                                                                              p
                                                                                                                                                                              1) =
                                                                                                                                                                          some
                                                                                                                                                                            (Value.int
                                                                                                                                                                              IntKind.i64
                                                                                                                                                                              n_17) ∧
                                                                                                                                                                        Call
                                                                                                                                                                          Tryd.prog
                                                                                                                                                                          16
                                                                                                                                                                          [Value.pointer
                                                                                                                                                                              p7_q,
                                                                                                                                                                            Value.int
                                                                                                                                                                              IntKind.i64
                                                                                                                                                                              n]
                                                                                                                                                                          w'
                                                                                                                                                                          fun
                                                                                                                                                                            e
                                                                                                                                                                            w' =>
                                                                                                                                                                          ∃
                                                                                                                                                                            p_1
                                                                                                                                                                            n
                                                                                                                                                                            c,
                                                                                                                                                                            e =
                                                                                                                                                                                Ending.returned
                                                                                                                                                                                  (Value.slice
                                                                                                                                                                                    p_1
                                                                                                                                                                                    n
                                                                                                                                                                                    c) ∧
                                                                                                                                                                              World.cell?
                                                                                                                                                                                    w'
                                                                                                                                                                                    (Addr.add
                                                                                                                                                                                      p
                                                                                                                                                                                      1) =
                                                                                                                                                                                  some
                                                                                                                                                                                    (Value.int
                                                                                                                                                                                      IntKind.i64
                                                                                                                                                                                      n_17) ∧
                                                                                                                                                                                Call
                                                                                                                                                                                  Tryd.prog
                                                                                                                                                                                  17
                                                                                                                                                                                  [Value.pointer
                                                                                                                                                                                      p9_r,
                                                                                                                                                                                    Value.int
                                                                                                                                                                                      IntKind.i64
                                                                                                                                                                                      n_17]
                                                                                                                                                                                  w'
                                                                                                                                                                                  fun
                                                                                                                                                                                    e
                                                                                                                                                                                    w' =>
                                                                                                                                                                                  ∃
                                                                                                                                                                                    p_2
                                                                                                                                                                                    n_18
                                                                                                                                                                                    c_1,
                                                                                                                                                                                    e =
                                                                                                                                                                                        Ending.returned
                                                                                                                                                                                          (Value.slice
                                                                                                                                                                                            p_2
                                                                                                                                                                                            n_18
                                                                                                                                                                                            c_1) ∧
                                                                                                                                                                                      Call
                                                                                                                                                                                        Tryd.prog
                                                                                                                                                                                        15
                                                                                                                                                                                        [Value.slice
                                                                                                                                                                                            p_1
                                                                                                                                                                                            n
                                                                                                                                                                                            c,
                                                                                                                                                                                          Value.slice
                                                                                                                                                                                            p_2
                                                                                                                                                                                            n_18
                                                                                                                                                                                            c_1]
                                                                                                                                                                                        w'
                                                                                                                                                                                        fun
                                                                                                                                                                                          e
                                                                                                                                                                                          w' =>
                                                                                                                                                                                        ∃
                                                                                                                                                                                          b,
                                                                                                                                                                                          e =
                                                                                                                                                                                              Ending.returned
                                                                                                                                                                                                (Value.bool
                                                                                                                                                                                                  b) ∧
                                                                                                                                                                                            ((!b) =
                                                                                                                                                                                                  false →
                                                                                                                                                                                                ∃
                                                                                                                                                                                                  n,
                                                                                                                                                                                                  World.cell?
                                                                                                                                                                                                        w'
                                                                                                                                                                                                        (Addr.add
                                                                                                                                                                                                          p
                                                                                                                                                                                                          2) =
                                                                                                                                                                                                      some
                                                                                                                                                                                                        (Value.int
                                                                                                                                                                                                          IntKind.i64
                                                                                                                                                                                                          n) ∧
                                                                                                                                                                                                    ∃
                                                                                                                                                                                                      n_19,
                                                                                                                                                                                                      World.cell?
                                                                                                                                                                                                            w'
                                                                                                                                                                                                            (Addr.add
                                                                                                                                                                                                              p
                                                                                                                                                                                                              2) =
                                                                                                                                                                                                          some
                                                                                                                                                                                                            (Value.int
                                                                                                                                                                                                              IntKind.i64
                                                                                                                                                                                                              n_19) ∧
                                                                                                                                                                                                        Call
                                                                                                                                                                                                          Tryd.prog
                                                                                                                                                                                                          16
                                                                                                                                                                                                          [Value.pointer
                                                                                                                                                                                                              p7_q,
                                                                                                                                                                                                            Value.int
                                                                                                                                                                                                              IntKind.i64
                                                                                                                                                                                                              n]
                                                                                                                                                                                                          w'
                                                                                                                                                                                                          fun
                                                                                                                                                                                                            e
                                                                                                                                                                                                            w' =>
                                                                                                                                                                                                          ∃
                                                                                                                                                                                                            p_3
                                                                                                                                                                                                            n
                                                                                                                                                                                                            c,
                                                                                                                                                                                                            e =
                                                                                                                                                                                                                Ending.returned
                                                                                                                                                                                                                  (Value.slice
                                                                                                                                                                                                                    p_3
                                                                                                                                                                                                                    n
                                                                                                                                                                                                                    c) ∧
                                                                                                                                                                                                              World.cell?
                                                                                                                                                                                                                    w'
                                                                                                                                                                                                                    (Addr.add
                                                                                                                                                                                                                      p
                                                                                                                                                                                                                      2) =
                                                                                                                                                                                                                  some
                                                                                                                                                                                                                    (Value.int
                                                                                                                                                                                                                      IntKind.i64
                                                                                                                                                                                                                      n_19) ∧
                                                                                                                                                                                                                Call
                                                                                                                                                                                                                  Tryd.prog
                                                                                                                                                                                                                  17
                                                                                                                                                                                                                  [Value.pointer
                                                                                                                                                                                                                      p9_r,
                                                                                                                                                                                                                    Value.int
                                                                                                                                                                                                                      IntKind.i64
                                                                                                                                                                                                                      n_19]
                                                                                                                                                                                                                  w'
                                                                                                                                                                                                                  fun
                                                                                                                                                                                                                    e
                                                                                                                                                                                                                    w' =>
                                                                                                                                                                                                                  ∃
                                                                                                                                                                                                                    p
                                                                                                                                                                                                                    n_20
                                                                                                                                                                                                                    c_2,
                                                                                                                                                                                                                    e =
                                                                                                                                                                                                                        Ending.returned
                                                                                                                                                                                                                          (Value.slice
                                                                                                                                                                                                                            p
                                                                                                                                                                                                                            n_20
                                                                                                                                                                                                                            c_2) ∧
                                                                                                                                                                                                                      Call
                                                                                                                                                                                                                        Tryd.prog
                                                                                                                                                                                                                        15
                                                                                                                                                                                                                        [Value.slice
                                                                                                                                                                                                                            p_3
                                                                                                                                                                                                                            n
                                                                                                                                                                                                                            c,
                                                                                                                                                                                                                          Value.slice
                                                                                                                                                                                                                            p
                                                                                                                                                                                                                            n_20
                                                                                                                                                                                                                            c_2]
                                                                                                                                                                                                                        w'
                                                                                                                                                                                                                        fun
                                                                                                                                                                                                                          e
                                                                                                                                                                                                                          w' =>
                                                                                                                                                                                                                        ∃
                                                                                                                                                                                                                          b,
                                                                                                                                                                                                                          e =
                                                                                                                                                                                                                              Ending.returned
                                                                                                                                                                                                                                (Value.bool
                                                                                                                                                                                                                                  b) ∧
                                                                                                                                                                                                                            ((!b) =
                                                                                                                                                                                                                                  true →
                                                                                                                                                                                                                                R
                                                                                                                                                                                                                                  (Ending.returned
                                                                                                                                                                                                                                    (Value.bool
                                                                                                                                                                                                                                      false))
                                                                                                                                                                                                                                  w') ∧
                                                                                                                                                                                                                              ((!b) =
                                                                                                                                                                                                                                  false →
                                                                                                                                                                                                                                B3_1
                                                                                                                                                                                                                                  [(1,
                                                                                                                                                                                                                                      SV.v
                                                                                                                                                                                                                                        (Value.slice
                                                                                                                                                                                                                                          p1_acts_a
                                                                                                                                                                                                                                          p1_acts_n
                                                                                                                                                                                                                                          p1_acts_c)),
                                                                                                                                                                                                                                    (2,
                                                                                                                                                                                                                                      SV.v
                                                                                                                                                                                                                                        (Value.int
                                                                                                                                                                                                                                          IntKind.u64
                                                                                                                                                                                                                                          p2_of)),
                                                                                                                                                                                                                                    (7,
                                                                                                                                                                                                                                      SV.v
                                                                                                                                                                                                                                        (Value.pointer
                                                                                                                                                                                                                                          p7_q)),
                                                                                                                                                                                                                                    (9,
                                                                                                                                                                                                                                      SV.v
                                                                                                                                                                                                                                        (Value.pointer
                                                                                                                                                                                                                                          p9_r)),
                                                                                                                                                                                                                                    (11,
                                                                                                                                                                                                                                      SV.v
                                                                                                                                                                                                                                        (Value.int
                                                                                                                                                                                                                                          IntKind.i64
                                                                                                                                                                                                                                          (IntKind.wrap
                                                                                                                                                                                                                                            IntKind.i64
                                                                                                                                                                                                                                            (p11_i +
                                                                                                                                                                                                                                              (1 :
                                                                                                                                                                                                                                                Int)))))]
                                                                                                                                                                                                                                  w')) ∧
                                                                                                                                                                                              ((!b) =
                                                                                                                                                                                                  true →
                                                                                                                                                                                                R
                                                                                                                                                                                                  (Ending.returned
                                                                                                                                                                                                    (Value.bool
                                                                                                                                                                                                      false))
                                                                                                                                                                                                  w')) ∧
                                                                                                                                                              ((n !=
                                                                                                                                                                    n_16) =
                                                                                                                                                                  true →
                                                                                                                                                                R
                                                                                                                                                                  (Ending.returned
                                                                                                                                                                    (Value.bool
                                                                                                                                                                      false))
                                                                                                                                                                  w')) ∧
                                                                                                                                    ((!b_2 ==
                                                                                                                                            b_3) =
                                                                                                                                        true →
                                                                                                                                      R
                                                                                                                                        (Ending.returned
                                                                                                                                          (Value.bool
                                                                                                                                            false))
                                                                                                                                        w'_1)) ∧
                                                                                                                                ((n_12 !=
                                                                                                                                      n_14) =
                                                                                                                                    true →
                                                                                                                                  R
                                                                                                                                    (Ending.returned
                                                                                                                                      (Value.bool
                                                                                                                                        false))
                                                                                                                                    w'_1)) ∧
                                                                                                                            ((!b ==
                                                                                                                                    b_1) =
                                                                                                                                true →
                                                                                                                              R
                                                                                                                                (Ending.returned
                                                                                                                                  (Value.bool
                                                                                                                                    false))
                                                                                                                                w'_1)) ∧
                                                                                                                        ((n !=
                                                                                                                              n_10) =
                                                                                                                            true →
                                                                                                                          R
                                                                                                                            (Ending.returned
                                                                                                                              (Value.bool
                                                                                                                                false))
                                                                                                                            w'_1))) ∧
      (decide (p11_i < (100 : Int)) = false → CutD Tryd.prog M3 c3_0 (e3_0 p2_of p7_q p9_r) w (k3_0 R))) ∧
  (decide (p11_i < (↑p1_acts_n : Int)) = false → CutD Tryd.prog M3 c3_0 (e3_0 p2_of p7_q p9_r) w (k3_0 R))) := by kernel_rfl
/-! davit/davitlaw10.RunqNil -/
def M4 : Mt := { N := 109, keep := [(0, [0, 1]), (1, [0, 1, 5]), (2, [0, 1, 5, 7]), (3, [0, 1, 5, 7, 9]), (4, [0, 1, 5, 7, 9, 11]), (5, [0, 1, 5, 7, 9, 11, 13]), (6, [0, 1, 5, 7, 9, 11, 13, 15]), (7, [0, 1, 5, 7, 9, 11, 13, 15, 17]), (8, [4])], ords := [], bk := [], cuts := [], lk := [] }
noncomputable def c4 : Code := bodyOf Tryd.f4
theorem b4 : Tryd.f4.body = some c4 := by kernel_rfl
theorem n4 : Tryd.f4.ntmps = M4.N := by kernel_rfl
set_option maxRecDepth 100000 in
theorem u4 {p0_cpu : Int} {p1_id : Int} {w : World} {R : Ending → World → Prop} (h : den Tryd.prog M4 c4 (argE 0 [(Value.int IntKind.i64 p0_cpu), (Value.int IntKind.i64 p1_id)]) w (retK Tryd.prog Tryd.f4.results.toList R)) : Calls Tryd.prog 4 #[(Value.int IntKind.i64 p0_cpu), (Value.int IntKind.i64 p1_id)] w R := calls_den okProg Tryd.func4 b4 n4 (Nat.le_of_ble_eq_true rfl) h
theorem t4 (p0_cpu : Int) (p1_id : Int) (w : World) (R : Ending → World → Prop) : den Tryd.prog M4 c4 (argE 0 [(Value.int IntKind.i64 p0_cpu), (Value.int IntKind.i64 p1_id)]) w (retK Tryd.prog Tryd.f4.results.toList R) =
(Call Tryd.prog 22 [Value.pointer none, Value.int IntKind.i64 p0_cpu] w fun e w' =>
  ∃ n n_1,
    e = Ending.returned (Value.tuple #[Value.int IntKind.i64 n, Value.int IntKind.i64 n_1]) ∧
      Call Tryd.prog 9 [Value.pointer none, Value.int IntKind.i64 p1_id] w' fun e w' =>
        ∃ n b,
          e = Ending.returned (Value.tuple #[Value.int IntKind.i64 n, Value.bool b]) ∧
            Call Tryd.prog 18 [Value.pointer none, Value.int IntKind.u64 1] w' fun e w' =>
              ∃ n n_2,
                e = Ending.returned (Value.tuple #[Value.int IntKind.i64 n, Value.int IntKind.i64 n_2]) ∧
                  Call Tryd.prog 20 [Value.pointer none, Value.int IntKind.u64 1] w' fun e w' =>
                    ∃ n n_3,
                      e = Ending.returned (Value.tuple #[Value.int IntKind.i64 n, Value.int IntKind.i64 n_3]) ∧
                        Call Tryd.prog 23
                          [Value.pointer none, Value.int IntKind.i64 p0_cpu, Value.int IntKind.i64 0] w'
                          fun e w' =>
                          ∃ n n_4,
                            e = Ending.returned (Value.tuple #[Value.int IntKind.i64 n, Value.int IntKind.i64 n_4]) ∧
                              Call Tryd.prog 11 [Value.pointer none, Value.int IntKind.i64 p1_id] w'
                                fun e w' =>
                                ∃ n b_1,
                                  e = Ending.returned (Value.tuple #[Value.int IntKind.i64 n, Value.bool b_1]) ∧
                                    Call Tryd.prog 24
                                      [Value.pointer none, Value.int IntKind.i64 p0_cpu,
                                        Value.int IntKind.i64 0, Value.int IntKind.i64 p1_id]
                                      w' fun e w' =>
                                      ∃ n,
                                        e = Ending.returned (Value.int IntKind.i64 n) ∧
                                          ((n == (1 : Int)) = true →
                                              ((n_1 == (1 : Int)) = true →
                                                  Call Tryd.prog 25
                                                    [Value.pointer none, Value.int IntKind.i64 p1_id] w' fun e w' =>
                                                    ∃ n,
                                                      e = Ending.returned (Value.int IntKind.i64 n) ∧
                                                        ((n == (1 : Int)) = true →
                                                            Call Tryd.prog 26
                                                              [Value.pointer none, Value.int IntKind.i64 p1_id] w'
                                                              fun e w' =>
                                                              ∃ n,
                                                                e = Ending.returned (Value.int IntKind.i64 n) ∧
                                                                  ((n == (1 : Int)) = true →
                                                                      ((!b) = true →
                                                                          Call Tryd.prog 13
                                                                            [Value.pointer none,
                                                                              Value.int IntKind.i64 p0_cpu]
                                                                            w' fun e w' =>
                                                                            ∃ n,
                                                                              e =
                                                                                  Ending.returned
                                                                                    (Value.int IntKind.i64 n) ∧
                                                                                ((n == (0 : Int)) = true →
                                                                                    ((n_2 == (1 : Int)) = true →
                                                                                        ((n_3 == (1 : Int)) = true →
                                                                                            ((n_4 == (1 : Int)) = true →
                                                                                                ((!b_1) = true →
                                                                                                    Call Tryd.prog
                                                                                                      16
                                                                                                      [Value.pointer
                                                                                                          none,
                                                                                                        Value.int
                                                                                                          IntKind.i64
                                                                                                          p0_cpu]
                                                                                                      w' fun e w' =>
                                                                                                      ∃ p n c,
                                                                                                        e =
                                                                                                            Ending.returned
                                                                                                              (Value.slice
                                                                                                                p n c) ∧
                                                                                                          (((↑n :
                                                                                                                    Int) ==
                                                                                                                  (0 :
                                                                                                                    Int)) =
                                                                                                                true →
                                                                                                              Call
                                                                                                                Tryd.prog
                                                                                                                7
                                                                                                                [] w'
                                                                                                                fun e
                                                                                                                  w' =>
                                                                                                                ∃ b,
                                                                                                                  e =
                                                                                                                      Ending.returned
                                                                                                                        (Value.bool
                                                                                                                          b) ∧
                                                                                                                    R
                                                                                                                      (Ending.returned
                                                                                                                        (Value.bool
                                                                                                                          b))
                                                                                                                      w') ∧
                                                                                                            (((↑n :
                                                                                                                    Int) ==
                                                                                                                  (0 :
                                                                                                                    Int)) =
                                                                                                                false →
                                                                                                              R
                                                                                                                (Ending.returned
                                                                                                                  (Value.bool
                                                                                                                    false))
                                                                                                                w')) ∧
                                                                                                  ((!b_1) = false →
                                                                                                    R
                                                                                                      (Ending.returned
                                                                                                        (Value.bool
                                                                                                          false))
                                                                                                      w')) ∧
                                                                                              ((n_4 == (1 : Int)) =
                                                                                                  false →
                                                                                                R
                                                                                                  (Ending.returned
                                                                                                    (Value.bool false))
                                                                                                  w')) ∧
                                                                                          ((n_3 == (1 : Int)) = false →
                                                                                            R
                                                                                              (Ending.returned
                                                                                                (Value.bool false))
                                                                                              w')) ∧
                                                                                      ((n_2 == (1 : Int)) = false →
                                                                                        R
                                                                                          (Ending.returned
                                                                                            (Value.bool false))
                                                                                          w')) ∧
                                                                                  ((n == (0 : Int)) = false →
                                                                                    R
                                                                                      (Ending.returned
                                                                                        (Value.bool false))
                                                                                      w')) ∧
                                                                        ((!b) = false →
                                                                          R (Ending.returned (Value.bool false)) w')) ∧
                                                                    ((n == (1 : Int)) = false →
                                                                      R (Ending.returned (Value.bool false)) w')) ∧
                                                          ((n == (1 : Int)) = false →
                                                            R (Ending.returned (Value.bool false)) w')) ∧
                                                ((n_1 == (1 : Int)) = false →
                                                  R (Ending.returned (Value.bool false)) w')) ∧
                                            ((n == (1 : Int)) = false → R (Ending.returned (Value.bool false)) w')) := by kernel_rfl
/-! davit/runq.New -/
def M5 : Mt := { N := 38, keep := [(0, [0]), (1, [0, 12]), (2, [2, 3]), (3, [0, 4]), (4, [4, 16, 17]), (5, [4, 16, 17, 18]), (6, [4, 5, 6, 16, 17]), (7, [4, 5, 6, 16, 17, 24]), (8, [2, 3]), (9, [4, 16, 17]), (10, [4, 16, 17]), (11, [2, 3])], ords := [], bk := [(0, [4]), (1, [4, 16, 17])], cuts := [], lk := [(5, [4, 16, 17])] }
noncomputable def c5 : Code := bodyOf Tryd.f5
noncomputable def c5_0 : Code := c5.sr.sr.sr.sr
noncomputable def c5_1 : Code := c5.sr.sr.sr.sl.sr.sl.sl
def e5_1 (p4_r : Option Addr) (p16_t : Int) (p17_t : Int) : Env := [(4, SV.v (Value.pointer p4_r)), (16, SV.v (Value.int IntKind.i64 p16_t)), (17, SV.v (Value.int IntKind.i64 p17_t))]
def k5_1 (R : Ending → World → Prop) : Cont := blockK 0 [4] (seqK (fun E w => cutB (findL M5.cuts (headReg c5_0)) Tryd.prog M5 c5_0 E w (retK Tryd.prog Tryd.f5.results.toList R) fun E => den Tryd.prog M5 c5_0 E w (retK Tryd.prog Tryd.f5.results.toList R)) (retK Tryd.prog Tryd.f5.results.toList R))
theorem b5 : Tryd.f5.body = some c5 := by kernel_rfl
theorem n5 : Tryd.f5.ntmps = M5.N := by kernel_rfl
set_option maxRecDepth 100000 in
theorem u5 {p0_cpus : Int} {w : World} {R : Ending → World → Prop} (h : den Tryd.prog M5 c5 (argE 0 [(Value.int IntKind.i64 p0_cpus)]) w (retK Tryd.prog Tryd.f5.results.toList R)) : Calls Tryd.prog 5 #[(Value.int IntKind.i64 p0_cpus)] w R := calls_den okProg Tryd.func5 b5 n5 (Nat.le_of_ble_eq_true rfl) h
theorem t5 (p0_cpus : Int) (w : World) (R : Ending → World → Prop) : den Tryd.prog M5 c5 (argE 0 [(Value.int IntKind.i64 p0_cpus)]) w (retK Tryd.prog Tryd.f5.results.toList R) =
((decide (p0_cpus < (1 : Int)) = false →
    (decide (p0_cpus > (64 : Int)) = true →
        R (Ending.returned (Value.tuple #[Value.pointer none, Value.int IntKind.i64 2])) w) ∧
      (decide (p0_cpus > (64 : Int)) = false →
        NewMap w fun r w' =>
          New w' [Value.slice none 0 0, Value.map (some r)] 54 fun p w' =>
            Cut (WP Tryd.prog 38 (Code.loop c5_1) (e5_1 (some p) p0_cpus (0 : Int)) w' (k5_1 R)))) ∧
  (decide (p0_cpus < (1 : Int)) = true →
    R (Ending.returned (Value.tuple #[Value.pointer none, Value.int IntKind.i64 2])) w)) := by kernel_rfl
theorem t5_1 (p4_r : Option Addr) (p16_t : Int) (p17_t : Int) (w : World) (B5_1 : Env → World → Prop) (R : Ending → World → Prop) : den Tryd.prog M5 c5_1 (e5_1 p4_r p16_t p17_t) w (loopK B5_1 (k5_1 R)) =
((decide (p17_t < p16_t) = true →
    Call Tryd.prog 27 [Value.int IntKind.i64 32] w fun e w' =>
      ∃ p n,
        e = Ending.returned (Value.tuple #[Value.pointer p, Value.int IntKind.i64 n]) ∧
          ((n != (0 : Int)) = true →
              R (Ending.returned (Value.tuple #[Value.pointer none, Value.int IntKind.i64 n])) w') ∧
            ((n != (0 : Int)) = false →
              ∃ a,
                p4_r = some a ∧
                  ∃ p_1 n c,
                    World.cell? w' (Addr.add a 0) = some (Value.slice p_1 n c) ∧
                      New w' [Value.pointer p] 55 fun p w' =>
                        ∃ p_2 n_1 c_1 w'_1,
                          Sem.run Tryd.prog
                                (Builtin.append_ #[52, 52] 52
                                  #[Value.slice p_1 n c, Value.slice (some p) 1 1])
                                w' =
                              Result.ok (Value.slice p_2 n_1 c_1) w'_1 ∧
                            ∃ a,
                              p4_r = some a ∧
                                Wr w'_1 (Addr.add a 0) [Value.slice p_2 n_1 c_1] fun w' =>
                                  B5_1
                                    [(4, SV.v (Value.pointer p4_r)),
                                      (16, SV.v (Value.int IntKind.i64 p16_t)),
                                      (17,
                                        SV.v (Value.int IntKind.i64 (IntKind.wrap IntKind.i64 (p17_t + (1 : Int)))))]
                                    w')) ∧
  (decide (p17_t < p16_t) = false →
    R (Ending.returned (Value.tuple #[Value.pointer p4_r, Value.int IntKind.i64 0])) w)) := by kernel_rfl
/-! davit/davitref10.New -/
def M6 : Mt := { N := 36, keep := [(0, [0]), (1, [0, 13]), (2, [2, 3]), (3, [0, 4]), (4, [0, 4, 5]), (5, [0, 4, 5, 18]), (6, [0, 4, 5]), (7, [0, 4, 5, 6]), (8, [0, 4, 5]), (9, [2, 3])], ords := [], bk := [(0, [4]), (1, [0, 4, 5])], cuts := [], lk := [(5, [0, 4, 5])] }
noncomputable def c6 : Code := bodyOf Tryd.f6
noncomputable def c6_0 : Code := c6.sr.sr.sr.sr
noncomputable def c6_1 : Code := c6.sr.sr.sr.sl.sr.sl.sl
def e6_1 (p0_cpus : Int) (p4_r : Option Addr) (p5_i : Int) : Env := [(0, SV.v (Value.int IntKind.i64 p0_cpus)), (4, SV.v (Value.pointer p4_r)), (5, SV.v (Value.int IntKind.i64 p5_i))]
def k6_1 (R : Ending → World → Prop) : Cont := blockK 0 [4] (seqK (fun E w => cutB (findL M6.cuts (headReg c6_0)) Tryd.prog M6 c6_0 E w (retK Tryd.prog Tryd.f6.results.toList R) fun E => den Tryd.prog M6 c6_0 E w (retK Tryd.prog Tryd.f6.results.toList R)) (retK Tryd.prog Tryd.f6.results.toList R))
theorem b6 : Tryd.f6.body = some c6 := by kernel_rfl
theorem n6 : Tryd.f6.ntmps = M6.N := by kernel_rfl
set_option maxRecDepth 100000 in
theorem u6 {p0_cpus : Int} {w : World} {R : Ending → World → Prop} (h : den Tryd.prog M6 c6 (argE 0 [(Value.int IntKind.i64 p0_cpus)]) w (retK Tryd.prog Tryd.f6.results.toList R)) : Calls Tryd.prog 6 #[(Value.int IntKind.i64 p0_cpus)] w R := calls_den okProg Tryd.func6 b6 n6 (Nat.le_of_ble_eq_true rfl) h
theorem t6 (p0_cpus : Int) (w : World) (R : Ending → World → Prop) : den Tryd.prog M6 c6 (argE 0 [(Value.int IntKind.i64 p0_cpus)]) w (retK Tryd.prog Tryd.f6.results.toList R) =
((decide (p0_cpus < (1 : Int)) = false →
    (decide (p0_cpus > (64 : Int)) = true →
        R (Ending.returned (Value.tuple #[Value.pointer none, Value.int IntKind.i64 2])) w) ∧
      (decide (p0_cpus > (64 : Int)) = false →
        New w [Value.slice none 0 0] 60 fun p w' =>
          Cut (WP Tryd.prog 36 (Code.loop c6_1) (e6_1 p0_cpus (some p) (0 : Int)) w' (k6_1 R)))) ∧
  (decide (p0_cpus < (1 : Int)) = true →
    R (Ending.returned (Value.tuple #[Value.pointer none, Value.int IntKind.i64 2])) w)) := by kernel_rfl
theorem t6_1 (p0_cpus : Int) (p4_r : Option Addr) (p5_i : Int) (w : World) (B6_1 : Env → World → Prop) (R : Ending → World → Prop) : den Tryd.prog M6 c6_1 (e6_1 p0_cpus p4_r p5_i) w (loopK B6_1 (k6_1 R)) =
((decide (p5_i < p0_cpus) = true →
    Call Tryd.prog 28 [Value.int IntKind.i64 32] w fun e w' =>
      ∃ p n,
        e = Ending.returned (Value.tuple #[Value.pointer p, Value.int IntKind.i64 n]) ∧
          ∃ a,
            p4_r = some a ∧
              ∃ p_1 n c,
                World.cell? w' (Addr.add a 0) = some (Value.slice p_1 n c) ∧
                  New w' [Value.pointer p] 61 fun p w' =>
                    ∃ p_2 n_1 c_1 w'_1,
                      Sem.run Tryd.prog
                            (Builtin.append_ #[58, 58] 58
                              #[Value.slice p_1 n c, Value.slice (some p) 1 1])
                            w' =
                          Result.ok (Value.slice p_2 n_1 c_1) w'_1 ∧
                        ∃ a,
                          p4_r = some a ∧
                            Wr w'_1 (Addr.add a 0) [Value.slice p_2 n_1 c_1] fun w' =>
                              B6_1
                                [(0, SV.v (Value.int IntKind.i64 p0_cpus)),
                                  (4, SV.v (Value.pointer p4_r)),
                                  (5,
                                    SV.v (Value.int IntKind.i64 (IntKind.wrap IntKind.i64 (p5_i + (1 : Int)))))]
                                w') ∧
  (decide (p5_i < p0_cpus) = false →
    R (Ending.returned (Value.tuple #[Value.pointer p4_r, Value.int IntKind.i64 0])) w)) := by kernel_rfl
/-! davit/davitlaw10.known -/
def M7 : Mt := { N := 64, keep := [(0, []), (1, [1, 2]), (2, [1, 18]), (3, [0]), (4, [1]), (5, [1]), (6, [1, 3, 4]), (7, [1, 3, 4, 5, 6]), (8, [1, 3, 4, 5, 6, 7, 8]), (9, [0])], ords := [], bk := [], cuts := [], lk := [] }
noncomputable def c7 : Code := bodyOf Tryd.f7
theorem b7 : Tryd.f7.body = some c7 := by kernel_rfl
theorem n7 : Tryd.f7.ntmps = M7.N := by kernel_rfl
set_option maxRecDepth 100000 in
theorem u7  {w : World} {R : Ending → World → Prop} (h : den Tryd.prog M7 c7 (argE 0 []) w (retK Tryd.prog Tryd.f7.results.toList R)) : Calls Tryd.prog 7 #[] w R := calls_den okProg Tryd.func7 b7 n7 (Nat.le_of_ble_eq_true rfl) h
theorem t7  (w : World) (R : Ending → World → Prop) : den Tryd.prog M7 c7 (argE 0 []) w (retK Tryd.prog Tryd.f7.results.toList R) =
(Call Tryd.prog 5 [Value.int IntKind.i64 2] w fun e w' =>
  ∃ p n,
    e = Ending.returned (Value.tuple #[Value.pointer p, Value.int IntKind.i64 n]) ∧
      ((n != (0 : Int)) = false →
          (Option.isNone p = true → R (Ending.returned (Value.bool false)) w') ∧
            (Option.isNone p = false →
              Call Tryd.prog 24
                [Value.pointer p, Value.int IntKind.i64 0, Value.int IntKind.i64 1,
                  Value.int IntKind.i64 5]
                w' fun e w' =>
                ∃ n,
                  e = Ending.returned (Value.int IntKind.i64 n) ∧
                    Call Tryd.prog 24
                      [Value.pointer p, Value.int IntKind.i64 0, Value.int IntKind.i64 2,
                        Value.int IntKind.i64 6]
                      w' fun e w' =>
                      ∃ n,
                        e = Ending.returned (Value.int IntKind.i64 n) ∧
                          Call Tryd.prog 22 [Value.pointer p, Value.int IntKind.i64 0] w' fun e w' =>
                            ∃ n n_1,
                              e = Ending.returned (Value.tuple #[Value.int IntKind.i64 n, Value.int IntKind.i64 n_1]) ∧
                                Call Tryd.prog 23
                                  [Value.pointer p, Value.int IntKind.i64 0, Value.int IntKind.i64 1] w'
                                  fun e w' =>
                                  ∃ n_2 n_3,
                                    e =
                                        Ending.returned
                                          (Value.tuple #[Value.int IntKind.i64 n_2, Value.int IntKind.i64 n_3]) ∧
                                      Call Tryd.prog 9 [Value.pointer p, Value.int IntKind.i64 5] w'
                                        fun e w' =>
                                        ∃ n_4 b,
                                          e = Ending.returned (Value.tuple #[Value.int IntKind.i64 n_4, Value.bool b]) ∧
                                            ((n == (6 : Int)) = true →
                                                ((n_1 == (0 : Int)) = true →
                                                    ((n_2 == (5 : Int)) = true →
                                                        ((n_3 == (0 : Int)) = true →
                                                            ((n_4 == (1 : Int)) = true →
                                                                (b = true →
                                                                    Call Tryd.prog 13
                                                                      [Value.pointer p, Value.int IntKind.i64 0]
                                                                      w' fun e w' =>
                                                                      ∃ n,
                                                                        e = Ending.returned (Value.int IntKind.i64 n) ∧
                                                                          R
                                                                            (Ending.returned
                                                                              (Value.bool (n == (1 : Int))))
                                                                            w') ∧
                                                                  (b = false →
                                                                    R (Ending.returned (Value.bool false)) w')) ∧
                                                              ((n_4 == (1 : Int)) = false →
                                                                R (Ending.returned (Value.bool false)) w')) ∧
                                                          ((n_3 == (0 : Int)) = false →
                                                            R (Ending.returned (Value.bool false)) w')) ∧
                                                      ((n_2 == (5 : Int)) = false →
                                                        R (Ending.returned (Value.bool false)) w')) ∧
                                                  ((n_1 == (0 : Int)) = false →
                                                    R (Ending.returned (Value.bool false)) w')) ∧
                                              ((n == (6 : Int)) = false →
                                                R (Ending.returned (Value.bool false)) w'))) ∧
        ((n != (0 : Int)) = true → R (Ending.returned (Value.bool false)) w')) := by kernel_rfl
/-! davit/davitlaw10.do -/
def M8 : Mt := { N := 109, keep := [(0, [0, 1, 5]), (1, [0, 1, 5, 17]), (2, [1, 5, 11, 12]), (3, [11, 12, 13, 14]), (4, [6]), (5, [0, 1, 5, 17, 44]), (6, [6]), (7, [0, 1, 5, 17, 63]), (8, [1, 5, 7, 8]), (9, [7, 8, 9, 10]), (10, [6]), (11, [0, 1, 5, 17, 87]), (12, [6]), (13, [0, 1, 5, 98]), (14, [6])], ords := [(6, [0, 1, 2, 3, 4, 5, 6, 8, 9, 10, 11, 12, 13, 14, 7, 15, 16, 17]), (12, [0, 1, 2, 4, 5, 6, 3, 7, 8, 9]), (14, [0, 1, 2, 4, 5, 6, 3, 7, 8, 9])], bk := [(0, [6])], cuts := [], lk := [] }
noncomputable def c8 : Code := bodyOf Tryd.f8
theorem b8 : Tryd.f8.body = some c8 := by kernel_rfl
theorem n8 : Tryd.f8.ntmps = M8.N := by kernel_rfl
set_option maxRecDepth 100000 in
theorem u8 {p0_q : Option Addr} {p1_r : Option Addr} {p2_a_0 : Int} {p2_a_1 : Int} {p2_a_2 : Int} {p2_a_3 : Int} {p2_a_4 : Int} {w : World} {R : Ending → World → Prop} (h : den Tryd.prog M8 c8 (argE 0 [(Value.pointer p0_q), (Value.pointer p1_r), (Value.agg #[(Value.int IntKind.i64 p2_a_0), (Value.int IntKind.i64 p2_a_1), (Value.int IntKind.i64 p2_a_2), (Value.int IntKind.i64 p2_a_3), (Value.int IntKind.i64 p2_a_4)])]) w (retK Tryd.prog Tryd.f8.results.toList R)) : Calls Tryd.prog 8 #[(Value.pointer p0_q), (Value.pointer p1_r), (Value.agg #[(Value.int IntKind.i64 p2_a_0), (Value.int IntKind.i64 p2_a_1), (Value.int IntKind.i64 p2_a_2), (Value.int IntKind.i64 p2_a_3), (Value.int IntKind.i64 p2_a_4)])] w R := calls_den okProg Tryd.func8 b8 n8 (Nat.le_of_ble_eq_true rfl) h
theorem t8 (p0_q : Option Addr) (p1_r : Option Addr) (p2_a_0 : Int) (p2_a_1 : Int) (p2_a_2 : Int) (p2_a_3 : Int) (p2_a_4 : Int) (w : World) (R : Ending → World → Prop) : den Tryd.prog M8 c8 (argE 0 [(Value.pointer p0_q), (Value.pointer p1_r), (Value.agg #[(Value.int IntKind.i64 p2_a_0), (Value.int IntKind.i64 p2_a_1), (Value.int IntKind.i64 p2_a_2), (Value.int IntKind.i64 p2_a_3), (Value.int IntKind.i64 p2_a_4)])]) w (retK Tryd.prog Tryd.f8.results.toList R) =
(New w
  [Value.int IntKind.i64 p2_a_0, Value.int IntKind.i64 p2_a_1, Value.int IntKind.i64 p2_a_2,
    Value.int IntKind.i64 p2_a_3, Value.int IntKind.i64 p2_a_4]
  33 fun p w' =>
  ∃ n,
    World.cell? w' (Addr.add p 0) = some (Value.int IntKind.i64 n) ∧
      (5 : Int) ≠ (0 : Int) ∧
        ((Int.tmod n (5 : Int) == (0 : Int)) = true →
            ∀ (w'_1 : World),
              World.heap w'_1 = World.heap w' →
                World.os w'_1 = World.os w' →
                  World.tape w'_1 = World.tape w' →
                    World.output w'_1 = World.output w' →
                      ∃ n,
                        World.cell? w'_1 (Addr.add p 1) = some (Value.int IntKind.i64 n) ∧
                          ∃ n_1,
                            World.cell? w'_1 (Addr.add p 3) = some (Value.int IntKind.i64 n_1) ∧
                              ∃ n_2,
                                World.cell? w'_1 (Addr.add p 4) = some (Value.int IntKind.i64 n_2) ∧
                                  ∃ n_3,
                                    World.cell? w'_1 (Addr.add p 1) = some (Value.int IntKind.i64 n_3) ∧
                                      ∃ n_4,
                                        World.cell? w'_1 (Addr.add p 3) = some (Value.int IntKind.i64 n_4) ∧
                                          ∃ n_5,
                                            World.cell? w'_1 (Addr.add p 4) = some (Value.int IntKind.i64 n_5) ∧
                                              Call Tryd.prog 24
                                                [Value.pointer p0_q, Value.int IntKind.i64 n,
                                                  Value.int IntKind.i64 n_1, Value.int IntKind.i64 n_2]
                                                w'_1 fun e w' =>
                                                ∃ n,
                                                  e = Ending.returned (Value.int IntKind.i64 n) ∧
                                                    World.cell? w' (Addr.add p 4) =
                                                        some (Value.int IntKind.i64 n_5) ∧
                                                      World.cell? w' (Addr.add p 3) =
                                                          some (Value.int IntKind.i64 n_4) ∧
                                                        World.cell? w' (Addr.add p 1) =
                                                            some (Value.int IntKind.i64 n_3) ∧
                                                          Call Tryd.prog 29
                                                            [Value.pointer p1_r, Value.int IntKind.i64 n_3,
                                                              Value.int IntKind.i64 n_4, Value.int IntKind.i64 n_5]
                                                            w' fun e w' =>
                                                            ∃ n_6,
                                                              e = Ending.returned (Value.int IntKind.i64 n_6) ∧
                                                                R (Ending.returned (Value.bool (n == n_6))) w') ∧
          ((Int.tmod n (5 : Int) == (0 : Int)) = false →
            ((Int.tmod n (5 : Int) == (1 : Int)) = true →
                ∃ n,
                  World.cell? w' (Addr.add p 1) = some (Value.int IntKind.i64 n) ∧
                    Call Tryd.prog 22 [Value.pointer p0_q, Value.int IntKind.i64 n] w' fun e w' =>
                      ∃ n n_1,
                        e = Ending.returned (Value.tuple #[Value.int IntKind.i64 n, Value.int IntKind.i64 n_1]) ∧
                          ∃ n_2,
                            World.cell? w' (Addr.add p 1) = some (Value.int IntKind.i64 n_2) ∧
                              Call Tryd.prog 30 [Value.pointer p1_r, Value.int IntKind.i64 n_2] w' fun e w' =>
                                ∃ n_3 n_4,
                                  e =
                                      Ending.returned
                                        (Value.tuple #[Value.int IntKind.i64 n_3, Value.int IntKind.i64 n_4]) ∧
                                    ((n == n_3) = true → R (Ending.returned (Value.bool (n_1 == n_4))) w') ∧
                                      ((n == n_3) = false → R (Ending.returned (Value.bool false)) w')) ∧
              ((Int.tmod n (5 : Int) == (1 : Int)) = false →
                ((Int.tmod n (5 : Int) == (2 : Int)) = true →
                    ∀ (w'_1 : World),
                      World.heap w'_1 = World.heap w' →
                        World.os w'_1 = World.os w' →
                          World.tape w'_1 = World.tape w' →
                            World.output w'_1 = World.output w' →
                              ∃ n,
                                World.cell? w'_1 (Addr.add p 4) = some (Value.int IntKind.i64 n) ∧
                                  ∃ n_1,
                                    World.cell? w'_1 (Addr.add p 4) = some (Value.int IntKind.i64 n_1) ∧
                                      Call Tryd.prog 25 [Value.pointer p0_q, Value.int IntKind.i64 n] w'_1
                                        fun e w' =>
                                        ∃ n,
                                          e = Ending.returned (Value.int IntKind.i64 n) ∧
                                            World.cell? w' (Addr.add p 4) = some (Value.int IntKind.i64 n_1) ∧
                                              Call Tryd.prog 31 [Value.pointer p1_r, Value.int IntKind.i64 n_1]
                                                w' fun e w' =>
                                                ∃ n_2,
                                                  e = Ending.returned (Value.int IntKind.i64 n_2) ∧
                                                    R (Ending.returned (Value.bool (n == n_2))) w') ∧
                  ((Int.tmod n (5 : Int) == (2 : Int)) = false →
                    ((Int.tmod n (5 : Int) == (3 : Int)) = true →
                        ∀ (w'_1 : World),
                          World.heap w'_1 = World.heap w' →
                            World.os w'_1 = World.os w' →
                              World.tape w'_1 = World.tape w' →
                                World.output w'_1 = World.output w' →
                                  ∃ n,
                                    World.cell? w'_1 (Addr.add p 4) = some (Value.int IntKind.i64 n) ∧
                                      ∃ n_1,
                                        World.cell? w'_1 (Addr.add p 4) = some (Value.int IntKind.i64 n_1) ∧
                                          Call Tryd.prog 26 [Value.pointer p0_q, Value.int IntKind.i64 n] w'_1
                                            fun e w' =>
                                            ∃ n,
                                              e = Ending.returned (Value.int IntKind.i64 n) ∧
                                                World.cell? w' (Addr.add p 4) =
                                                    some (Value.int IntKind.i64 n_1) ∧
                                                  Call Tryd.prog 32
                                                    [Value.pointer p1_r, Value.int IntKind.i64 n_1] w' fun e w' =>
                                                    ∃ n_2,
                                                      e = Ending.returned (Value.int IntKind.i64 n_2) ∧
                                                        R (Ending.returned (Value.bool (n == n_2))) w') ∧
                      ((Int.tmod n (5 : Int) == (3 : Int)) = false →
                        ∃ n,
                          World.cell? w' (Addr.add p 1) = some (Value.int IntKind.i64 n) ∧
                            ∃ n_1,
                              World.cell? w' (Addr.add p 2) = some (Value.int IntKind.i64 n_1) ∧
                                Call Tryd.prog 23
                                  [Value.pointer p0_q, Value.int IntKind.i64 n, Value.int IntKind.i64 n_1] w'
                                  fun e w' =>
                                  ∃ n n_2,
                                    e =
                                        Ending.returned
                                          (Value.tuple #[Value.int IntKind.i64 n, Value.int IntKind.i64 n_2]) ∧
                                      ∃ n_3,
                                        World.cell? w' (Addr.add p 1) = some (Value.int IntKind.i64 n_3) ∧
                                          ∃ n_4,
                                            World.cell? w' (Addr.add p 2) = some (Value.int IntKind.i64 n_4) ∧
                                              Call Tryd.prog 33
                                                [Value.pointer p1_r, Value.int IntKind.i64 n_3,
                                                  Value.int IntKind.i64 n_4]
                                                w' fun e w' =>
                                                ∃ n_5 n_6,
                                                  e =
                                                      Ending.returned
                                                        (Value.tuple
                                                          #[Value.int IntKind.i64 n_5, Value.int IntKind.i64 n_6]) ∧
                                                    ((n == n_5) = true →
                                                        R (Ending.returned (Value.bool (n_2 == n_6))) w') ∧
                                                      ((n == n_5) = false →
                                                        R (Ending.returned (Value.bool false)) w')))))) := by kernel_rfl
/-! (*davit/runq.Runq).Where -/
def M9 : Mt := { N := 21, keep := [(0, [0, 1]), (1, [0, 1, 9]), (2, [4, 5]), (3, [6, 7]), (4, [4, 5])], ords := [], bk := [], cuts := [], lk := [] }
noncomputable def c9 : Code := bodyOf Tryd.f9
theorem b9 : Tryd.f9.body = some c9 := by kernel_rfl
theorem n9 : Tryd.f9.ntmps = M9.N := by kernel_rfl
set_option maxRecDepth 100000 in
theorem u9 {p0_r : Option Addr} {p1_id : Int} {w : World} {R : Ending → World → Prop} (h : den Tryd.prog M9 c9 (argE 0 [(Value.pointer p0_r), (Value.int IntKind.i64 p1_id)]) w (retK Tryd.prog Tryd.f9.results.toList R)) : Calls Tryd.prog 9 #[(Value.pointer p0_r), (Value.int IntKind.i64 p1_id)] w R := calls_den okProg Tryd.func9 b9 n9 (Nat.le_of_ble_eq_true rfl) h
theorem t9 (p0_r : Option Addr) (p1_id : Int) (w : World) (R : Ending → World → Prop) : den Tryd.prog M9 c9 (argE 0 [(Value.pointer p0_r), (Value.int IntKind.i64 p1_id)]) w (retK Tryd.prog Tryd.f9.results.toList R) =
((Option.isNone p0_r = true →
    R (Ending.returned (Value.tuple #[Value.int IntKind.i64 0, Value.bool false])) w) ∧
  (Option.isNone p0_r = false →
    ∃ a,
      p0_r = some a ∧
        ∃ r,
          World.cell? w (Addr.add a 1) = some (Value.map r) ∧
            ∃ n b,
              Sem.run Tryd.prog (Instr.lookup 51 (Value.map r) (Value.int IntKind.i64 p1_id) true) w =
                  Result.ok (Value.tuple #[Value.int IntKind.i64 n, Value.bool b]) w ∧
                R (Ending.returned (Value.tuple #[Value.int IntKind.i64 n, Value.bool b])) w)) := by kernel_rfl
/-! (*davit/davitref10.Runq).Where -/
def M10 : Mt := { N := 32, keep := [(0, [0, 1]), (1, [0, 1, 6]), (2, [0, 1, 6, 15]), (3, [0, 1, 6]), (4, [0, 1, 6, 8]), (5, [0, 1, 6, 30]), (6, [4, 5]), (7, [4, 5])], ords := [], bk := [(0, []), (1, [0, 1, 6])], cuts := [], lk := [(2, [0, 1, 6])] }
noncomputable def c10 : Code := bodyOf Tryd.f10
noncomputable def c10_0 : Code := c10.sr.sr
noncomputable def c10_1 : Code := c10.sr.sl.sr.sl.sl
def e10_1 (p0_r : Option Addr) (p1_id : Int) (p6_i : Int) : Env := [(0, SV.v (Value.pointer p0_r)), (1, SV.v (Value.int IntKind.i64 p1_id)), (6, SV.v (Value.int IntKind.i64 p6_i))]
def k10_1 (R : Ending → World → Prop) : Cont := blockK 0 [] (seqK (fun E w => cutB (findL M10.cuts (headReg c10_0)) Tryd.prog M10 c10_0 E w (retK Tryd.prog Tryd.f10.results.toList R) fun E => den Tryd.prog M10 c10_0 E w (retK Tryd.prog Tryd.f10.results.toList R)) (retK Tryd.prog Tryd.f10.results.toList R))
theorem b10 : Tryd.f10.body = some c10 := by kernel_rfl
theorem n10 : Tryd.f10.ntmps = M10.N := by kernel_rfl
set_option maxRecDepth 100000 in
theorem u10 {p0_r : Option Addr} {p1_id : Int} {w : World} {R : Ending → World → Prop} (h : den Tryd.prog M10 c10 (argE 0 [(Value.pointer p0_r), (Value.int IntKind.i64 p1_id)]) w (retK Tryd.prog Tryd.f10.results.toList R)) : Calls Tryd.prog 10 #[(Value.pointer p0_r), (Value.int IntKind.i64 p1_id)] w R := calls_den okProg Tryd.func10 b10 n10 (Nat.le_of_ble_eq_true rfl) h
theorem t10 (p0_r : Option Addr) (p1_id : Int) (w : World) (R : Ending → World → Prop) : den Tryd.prog M10 c10 (argE 0 [(Value.pointer p0_r), (Value.int IntKind.i64 p1_id)]) w (retK Tryd.prog Tryd.f10.results.toList R) =
(Cut (WP Tryd.prog 32 (Code.loop c10_1) (e10_1 p0_r p1_id (0 : Int)) w (k10_1 R))) := by kernel_rfl
theorem t10_1 (p0_r : Option Addr) (p1_id : Int) (p6_i : Int) (w : World) (B10_1 : Env → World → Prop) (R : Ending → World → Prop) : den Tryd.prog M10 c10_1 (e10_1 p0_r p1_id p6_i) w (loopK B10_1 (k10_1 R)) =
(∃ a,
  p0_r = some a ∧
    ∃ p n c,
      World.cell? w (Addr.add a 0) = some (Value.slice p n c) ∧
        (decide (p6_i < (↑n : Int)) = true →
            ∃ a,
              p0_r = some a ∧
                ∃ p n c,
                  World.cell? w (Addr.add a 0) = some (Value.slice p n c) ∧
                    ((0 : Int) ≤ p6_i ∧ p6_i < (↑n : Int)) ∧
                      ∃ a,
                        p = some a ∧
                          ∃ p,
                            World.cell? w (Addr.add a (Int.toNat p6_i * 1)) = some (Value.pointer p) ∧
                              Call Tryd.prog 34 [Value.pointer p, Value.int IntKind.i64 p1_id] w fun e w' =>
                                ∃ n b,
                                  e = Ending.returned (Value.tuple #[Value.int IntKind.i64 n, Value.bool b]) ∧
                                    (b = true →
                                        R
                                          (Ending.returned
                                            (Value.tuple #[Value.int IntKind.i64 p6_i, Value.bool true]))
                                          w') ∧
                                      (b = false →
                                        B10_1
                                          [(0, SV.v (Value.pointer p0_r)),
                                            (1, SV.v (Value.int IntKind.i64 p1_id)),
                                            (6,
                                              SV.v
                                                (Value.int IntKind.i64 (IntKind.wrap IntKind.i64 (p6_i + (1 : Int)))))]
                                          w')) ∧
          (decide (p6_i < (↑n : Int)) = false →
            R (Ending.returned (Value.tuple #[Value.int IntKind.i64 0, Value.bool false])) w)) := by kernel_rfl
/-! (*davit/runq.Runq).Prio -/
def M11 : Mt := { N := 27, keep := [(0, [0, 1]), (1, [0, 1, 6, 7]), (2, [0, 1, 6, 15]), (3, [4, 5]), (4, [4, 5])], ords := [], bk := [], cuts := [], lk := [] }
noncomputable def c11 : Code := bodyOf Tryd.f11
theorem b11 : Tryd.f11.body = some c11 := by kernel_rfl
theorem n11 : Tryd.f11.ntmps = M11.N := by kernel_rfl
set_option maxRecDepth 100000 in
theorem u11 {p0_r : Option Addr} {p1_id : Int} {w : World} {R : Ending → World → Prop} (h : den Tryd.prog M11 c11 (argE 0 [(Value.pointer p0_r), (Value.int IntKind.i64 p1_id)]) w (retK Tryd.prog Tryd.f11.results.toList R)) : Calls Tryd.prog 11 #[(Value.pointer p0_r), (Value.int IntKind.i64 p1_id)] w R := calls_den okProg Tryd.func11 b11 n11 (Nat.le_of_ble_eq_true rfl) h
theorem t11 (p0_r : Option Addr) (p1_id : Int) (w : World) (R : Ending → World → Prop) : den Tryd.prog M11 c11 (argE 0 [(Value.pointer p0_r), (Value.int IntKind.i64 p1_id)]) w (retK Tryd.prog Tryd.f11.results.toList R) =
(Call Tryd.prog 9 [Value.pointer p0_r, Value.int IntKind.i64 p1_id] w fun e w' =>
  ∃ n b,
    e = Ending.returned (Value.tuple #[Value.int IntKind.i64 n, Value.bool b]) ∧
      ((!b) = true → R (Ending.returned (Value.tuple #[Value.int IntKind.i64 0, Value.bool false])) w') ∧
        ((!b) = false →
          ∃ a,
            p0_r = some a ∧
              ∃ p n_1 c,
                World.cell? w' (Addr.add a 0) = some (Value.slice p n_1 c) ∧
                  ((0 : Int) ≤ n ∧ n < (↑n_1 : Int)) ∧
                    ∃ a,
                      p = some a ∧
                        ∃ p,
                          World.cell? w' (Addr.add a (Int.toNat n * 1)) = some (Value.pointer p) ∧
                            Call Tryd.prog 35 [Value.pointer p, Value.int IntKind.i64 p1_id] w' fun e w' =>
                              ∃ n b,
                                e = Ending.returned (Value.tuple #[Value.int IntKind.i64 n, Value.bool b]) ∧
                                  R (Ending.returned (Value.tuple #[Value.int IntKind.i64 n, Value.bool b])) w')) := by kernel_rfl
/-! (*davit/davitref10.Runq).Prio -/
def M12 : Mt := { N := 27, keep := [(0, [0, 1]), (1, [0, 1, 6, 7]), (2, [0, 1, 6, 15]), (3, [4, 5]), (4, [4, 5])], ords := [], bk := [], cuts := [], lk := [] }
noncomputable def c12 : Code := bodyOf Tryd.f12
theorem b12 : Tryd.f12.body = some c12 := by kernel_rfl
theorem n12 : Tryd.f12.ntmps = M12.N := by kernel_rfl
set_option maxRecDepth 100000 in
theorem u12 {p0_r : Option Addr} {p1_id : Int} {w : World} {R : Ending → World → Prop} (h : den Tryd.prog M12 c12 (argE 0 [(Value.pointer p0_r), (Value.int IntKind.i64 p1_id)]) w (retK Tryd.prog Tryd.f12.results.toList R)) : Calls Tryd.prog 12 #[(Value.pointer p0_r), (Value.int IntKind.i64 p1_id)] w R := calls_den okProg Tryd.func12 b12 n12 (Nat.le_of_ble_eq_true rfl) h
theorem t12 (p0_r : Option Addr) (p1_id : Int) (w : World) (R : Ending → World → Prop) : den Tryd.prog M12 c12 (argE 0 [(Value.pointer p0_r), (Value.int IntKind.i64 p1_id)]) w (retK Tryd.prog Tryd.f12.results.toList R) =
(Call Tryd.prog 10 [Value.pointer p0_r, Value.int IntKind.i64 p1_id] w fun e w' =>
  ∃ n b,
    e = Ending.returned (Value.tuple #[Value.int IntKind.i64 n, Value.bool b]) ∧
      ((!b) = true → R (Ending.returned (Value.tuple #[Value.int IntKind.i64 0, Value.bool false])) w') ∧
        ((!b) = false →
          ∃ a,
            p0_r = some a ∧
              ∃ p n_1 c,
                World.cell? w' (Addr.add a 0) = some (Value.slice p n_1 c) ∧
                  ((0 : Int) ≤ n ∧ n < (↑n_1 : Int)) ∧
                    ∃ a,
                      p = some a ∧
                        ∃ p,
                          World.cell? w' (Addr.add a (Int.toNat n * 1)) = some (Value.pointer p) ∧
                            Call Tryd.prog 34 [Value.pointer p, Value.int IntKind.i64 p1_id] w' fun e w' =>
                              ∃ n b,
                                e = Ending.returned (Value.tuple #[Value.int IntKind.i64 n, Value.bool b]) ∧
                                  R (Ending.returned (Value.tuple #[Value.int IntKind.i64 n, Value.bool b])) w')) := by kernel_rfl
/-! (*davit/runq.Runq).Load -/
def M13 : Mt := { N := 17, keep := [(0, [0, 1]), (1, [0, 1, 8]), (2, [4]), (3, [4])], ords := [], bk := [], cuts := [], lk := [] }
noncomputable def c13 : Code := bodyOf Tryd.f13
theorem b13 : Tryd.f13.body = some c13 := by kernel_rfl
theorem n13 : Tryd.f13.ntmps = M13.N := by kernel_rfl
set_option maxRecDepth 100000 in
theorem u13 {p0_r : Option Addr} {p1_cpu : Int} {w : World} {R : Ending → World → Prop} (h : den Tryd.prog M13 c13 (argE 0 [(Value.pointer p0_r), (Value.int IntKind.i64 p1_cpu)]) w (retK Tryd.prog Tryd.f13.results.toList R)) : Calls Tryd.prog 13 #[(Value.pointer p0_r), (Value.int IntKind.i64 p1_cpu)] w R := calls_den okProg Tryd.func13 b13 n13 (Nat.le_of_ble_eq_true rfl) h
theorem t13 (p0_r : Option Addr) (p1_cpu : Int) (w : World) (R : Ending → World → Prop) : den Tryd.prog M13 c13 (argE 0 [(Value.pointer p0_r), (Value.int IntKind.i64 p1_cpu)]) w (retK Tryd.prog Tryd.f13.results.toList R) =
(Call Tryd.prog 36 [Value.pointer p0_r, Value.int IntKind.i64 p1_cpu] w fun e w' =>
  ∃ n,
    e = Ending.returned (Value.int IntKind.i64 n) ∧
      ((n != (0 : Int)) = true → R (Ending.returned (Value.int IntKind.i64 0)) w') ∧
        ((n != (0 : Int)) = false →
          ∃ a,
            p0_r = some a ∧
              ∃ p n c,
                World.cell? w' (Addr.add a 0) = some (Value.slice p n c) ∧
                  ((0 : Int) ≤ p1_cpu ∧ p1_cpu < (↑n : Int)) ∧
                    ∃ a,
                      p = some a ∧
                        ∃ p,
                          World.cell? w' (Addr.add a (Int.toNat p1_cpu * 1)) = some (Value.pointer p) ∧
                            Call Tryd.prog 37 [Value.pointer p] w' fun e w' =>
                              ∃ n,
                                e = Ending.returned (Value.int IntKind.i64 n) ∧
                                  R (Ending.returned (Value.int IntKind.i64 n)) w')) := by kernel_rfl
/-! (*davit/davitref10.Runq).Load -/
def M14 : Mt := { N := 9, keep := [(0, [0, 1]), (1, [4])], ords := [], bk := [], cuts := [], lk := [] }
noncomputable def c14 : Code := bodyOf Tryd.f14
theorem b14 : Tryd.f14.body = some c14 := by kernel_rfl
theorem n14 : Tryd.f14.ntmps = M14.N := by kernel_rfl
set_option maxRecDepth 100000 in
theorem u14 {p0_r : Option Addr} {p1_cpu : Int} {w : World} {R : Ending → World → Prop} (h : den Tryd.prog M14 c14 (argE 0 [(Value.pointer p0_r), (Value.int IntKind.i64 p1_cpu)]) w (retK Tryd.prog Tryd.f14.results.toList R)) : Calls Tryd.prog 14 #[(Value.pointer p0_r), (Value.int IntKind.i64 p1_cpu)] w R := calls_den okProg Tryd.func14 b14 n14 (Nat.le_of_ble_eq_true rfl) h
theorem t14 (p0_r : Option Addr) (p1_cpu : Int) (w : World) (R : Ending → World → Prop) : den Tryd.prog M14 c14 (argE 0 [(Value.pointer p0_r), (Value.int IntKind.i64 p1_cpu)]) w (retK Tryd.prog Tryd.f14.results.toList R) =
(Call Tryd.prog 17 [Value.pointer p0_r, Value.int IntKind.i64 p1_cpu] w fun e w' =>
  ∃ p n c, e = Ending.returned (Value.slice p n c) ∧ R (Ending.returned (Value.int IntKind.i64 (↑n : Int))) w') := by kernel_rfl
/-! davit/davitref01.Ints -/
def M15 : Mt := { N := 26, keep := [(0, [0, 1]), (1, [0, 1, 10]), (2, [4]), (3, [0, 1, 5]), (4, [0, 1, 5, 14]), (5, [0, 1, 5]), (6, [0, 1, 5, 25]), (7, [4]), (8, [4])], ords := [(6, [0, 1, 2, 3, 4, 5, 6, 7, 8])], bk := [(0, []), (1, [0, 1, 5])], cuts := [], lk := [(4, [0, 1, 5])] }
noncomputable def c15 : Code := bodyOf Tryd.f15
noncomputable def c15_0 : Code := c15.sr.sr.sr
noncomputable def c15_1 : Code := c15.sr.sr.sl.sr.sl.sl
def e15_1 (p0_a_a : Option Addr) (p0_a_n : Nat) (p0_a_c : Nat) (p1_b_a : Option Addr) (p1_b_n : Nat) (p1_b_c : Nat) (p5_i : Int) : Env := [(0, SV.v (Value.slice p0_a_a p0_a_n p0_a_c)), (1, SV.v (Value.slice p1_b_a p1_b_n p1_b_c)), (5, SV.v (Value.int IntKind.i64 p5_i))]
def k15_1 (R : Ending → World → Prop) : Cont := blockK 0 [] (seqK (fun E w => cutB (findL M15.cuts (headReg c15_0)) Tryd.prog M15 c15_0 E w (retK Tryd.prog Tryd.f15.results.toList R) fun E => den Tryd.prog M15 c15_0 E w (retK Tryd.prog Tryd.f15.results.toList R)) (retK Tryd.prog Tryd.f15.results.toList R))
theorem b15 : Tryd.f15.body = some c15 := by kernel_rfl
theorem n15 : Tryd.f15.ntmps = M15.N := by kernel_rfl
set_option maxRecDepth 100000 in
theorem u15 {p0_a_a : Option Addr} {p0_a_n : Nat} {p0_a_c : Nat} {p1_b_a : Option Addr} {p1_b_n : Nat} {p1_b_c : Nat} {w : World} {R : Ending → World → Prop} (h : den Tryd.prog M15 c15 (argE 0 [(Value.slice p0_a_a p0_a_n p0_a_c), (Value.slice p1_b_a p1_b_n p1_b_c)]) w (retK Tryd.prog Tryd.f15.results.toList R)) : Calls Tryd.prog 15 #[(Value.slice p0_a_a p0_a_n p0_a_c), (Value.slice p1_b_a p1_b_n p1_b_c)] w R := calls_den okProg Tryd.func15 b15 n15 (Nat.le_of_ble_eq_true rfl) h
theorem t15 (p0_a_a : Option Addr) (p0_a_n : Nat) (p0_a_c : Nat) (p1_b_a : Option Addr) (p1_b_n : Nat) (p1_b_c : Nat) (w : World) (R : Ending → World → Prop) : den Tryd.prog M15 c15 (argE 0 [(Value.slice p0_a_a p0_a_n p0_a_c), (Value.slice p1_b_a p1_b_n p1_b_c)]) w (retK Tryd.prog Tryd.f15.results.toList R) =
((((↑p0_a_n : Int) != (↑p1_b_n : Int)) = true → R (Ending.returned (Value.bool false)) w) ∧
  (((↑p0_a_n : Int) != (↑p1_b_n : Int)) = false →
    Cut
      (WP Tryd.prog 26 (Code.loop c15_1) (e15_1 p0_a_a p0_a_n p0_a_c p1_b_a p1_b_n p1_b_c (0 : Int)) w
        (k15_1 R)))) := by kernel_rfl
theorem t15_1 (p0_a_a : Option Addr) (p0_a_n : Nat) (p0_a_c : Nat) (p1_b_a : Option Addr) (p1_b_n : Nat) (p1_b_c : Nat) (p5_i : Int) (w : World) (B15_1 : Env → World → Prop) (R : Ending → World → Prop) : den Tryd.prog M15 c15_1 (e15_1 p0_a_a p0_a_n p0_a_c p1_b_a p1_b_n p1_b_c p5_i) w (loopK B15_1 (k15_1 R)) =
((decide (p5_i < (↑p0_a_n : Int)) = true →
    ∀ (w' : World),
      World.heap w' = World.heap w →
        World.os w' = World.os w →
          World.tape w' = World.tape w →
            World.output w' = World.output w →
              ((0 : Int) ≤ p5_i ∧ p5_i < (↑p0_a_n : Int)) ∧
                ∃ a,
                  p0_a_a = some a ∧
                    ∃ n,
                      World.cell? w' (Addr.add a (Int.toNat p5_i * 1)) = some (Value.int IntKind.i64 n) ∧
                        ((0 : Int) ≤ p5_i ∧ p5_i < (↑p1_b_n : Int)) ∧
                          ∃ a,
                            p1_b_a = some a ∧
                              ∃ n_1,
                                World.cell? w' (Addr.add a (Int.toNat p5_i * 1)) =
                                    some (Value.int IntKind.i64 n_1) ∧
                                  ((n != n_1) = true → R (Ending.returned (Value.bool false)) w') ∧
                                    ((n != n_1) = false →
                                      B15_1
                                        [(0, SV.v (Value.slice p0_a_a p0_a_n p0_a_c)),
                                          (1, SV.v (Value.slice p1_b_a p1_b_n p1_b_c)),
                                          (5,
                                            SV.v
                                              (Value.int IntKind.i64 (IntKind.wrap IntKind.i64 (p5_i + (1 : Int)))))]
                                        w')) ∧
  (decide (p5_i < (↑p0_a_n : Int)) = false → R (Ending.returned (Value.bool true)) w)) := by kernel_rfl
/-! (*davit/runq.Runq).List -/
def M16 : Mt := { N := 17, keep := [(0, [0, 1]), (1, [0, 1, 8]), (2, [4]), (3, [4])], ords := [], bk := [], cuts := [], lk := [] }
noncomputable def c16 : Code := bodyOf Tryd.f16
theorem b16 : Tryd.f16.body = some c16 := by kernel_rfl
theorem n16 : Tryd.f16.ntmps = M16.N := by kernel_rfl
set_option maxRecDepth 100000 in
theorem u16 {p0_r : Option Addr} {p1_cpu : Int} {w : World} {R : Ending → World → Prop} (h : den Tryd.prog M16 c16 (argE 0 [(Value.pointer p0_r), (Value.int IntKind.i64 p1_cpu)]) w (retK Tryd.prog Tryd.f16.results.toList R)) : Calls Tryd.prog 16 #[(Value.pointer p0_r), (Value.int IntKind.i64 p1_cpu)] w R := calls_den okProg Tryd.func16 b16 n16 (Nat.le_of_ble_eq_true rfl) h
theorem t16 (p0_r : Option Addr) (p1_cpu : Int) (w : World) (R : Ending → World → Prop) : den Tryd.prog M16 c16 (argE 0 [(Value.pointer p0_r), (Value.int IntKind.i64 p1_cpu)]) w (retK Tryd.prog Tryd.f16.results.toList R) =
(Call Tryd.prog 36 [Value.pointer p0_r, Value.int IntKind.i64 p1_cpu] w fun e w' =>
  ∃ n,
    e = Ending.returned (Value.int IntKind.i64 n) ∧
      ((n != (0 : Int)) = true → R (Ending.returned (Value.slice none 0 0)) w') ∧
        ((n != (0 : Int)) = false →
          ∃ a,
            p0_r = some a ∧
              ∃ p n c,
                World.cell? w' (Addr.add a 0) = some (Value.slice p n c) ∧
                  ((0 : Int) ≤ p1_cpu ∧ p1_cpu < (↑n : Int)) ∧
                    ∃ a,
                      p = some a ∧
                        ∃ p,
                          World.cell? w' (Addr.add a (Int.toNat p1_cpu * 1)) = some (Value.pointer p) ∧
                            Call Tryd.prog 38 [Value.pointer p] w' fun e w' =>
                              ∃ p n c,
                                e = Ending.returned (Value.slice p n c) ∧ R (Ending.returned (Value.slice p n c)) w')) := by kernel_rfl
/-! (*davit/davitref10.Runq).List -/
def M17 : Mt := { N := 17, keep := [(0, [0, 1]), (1, [0, 1, 8]), (2, [4]), (3, [4])], ords := [], bk := [], cuts := [], lk := [] }
noncomputable def c17 : Code := bodyOf Tryd.f17
theorem b17 : Tryd.f17.body = some c17 := by kernel_rfl
theorem n17 : Tryd.f17.ntmps = M17.N := by kernel_rfl
set_option maxRecDepth 100000 in
theorem u17 {p0_r : Option Addr} {p1_cpu : Int} {w : World} {R : Ending → World → Prop} (h : den Tryd.prog M17 c17 (argE 0 [(Value.pointer p0_r), (Value.int IntKind.i64 p1_cpu)]) w (retK Tryd.prog Tryd.f17.results.toList R)) : Calls Tryd.prog 17 #[(Value.pointer p0_r), (Value.int IntKind.i64 p1_cpu)] w R := calls_den okProg Tryd.func17 b17 n17 (Nat.le_of_ble_eq_true rfl) h
theorem t17 (p0_r : Option Addr) (p1_cpu : Int) (w : World) (R : Ending → World → Prop) : den Tryd.prog M17 c17 (argE 0 [(Value.pointer p0_r), (Value.int IntKind.i64 p1_cpu)]) w (retK Tryd.prog Tryd.f17.results.toList R) =
(Call Tryd.prog 39 [Value.pointer p0_r, Value.int IntKind.i64 p1_cpu] w fun e w' =>
  ∃ b,
    e = Ending.returned (Value.bool b) ∧
      ((!b) = true → R (Ending.returned (Value.slice none 0 0)) w') ∧
        ((!b) = false →
          ∃ a,
            p0_r = some a ∧
              ∃ p n c,
                World.cell? w' (Addr.add a 0) = some (Value.slice p n c) ∧
                  ((0 : Int) ≤ p1_cpu ∧ p1_cpu < (↑n : Int)) ∧
                    ∃ a,
                      p = some a ∧
                        ∃ p,
                          World.cell? w' (Addr.add a (Int.toNat p1_cpu * 1)) = some (Value.pointer p) ∧
                            Call Tryd.prog 40 [Value.pointer p] w' fun e w' =>
                              ∃ p n c,
                                e = Ending.returned (Value.slice p n c) ∧ R (Ending.returned (Value.slice p n c)) w')) := by kernel_rfl
/-! (*davit/runq.Runq).Busiest -/
def M18 : Mt := { N := 11, keep := [(0, [0, 1]), (1, [4, 5])], ords := [], bk := [], cuts := [], lk := [] }
noncomputable def c18 : Code := bodyOf Tryd.f18
theorem b18 : Tryd.f18.body = some c18 := by kernel_rfl
theorem n18 : Tryd.f18.ntmps = M18.N := by kernel_rfl
set_option maxRecDepth 100000 in
theorem u18 {p0_r : Option Addr} {p1_of : Int} {w : World} {R : Ending → World → Prop} (h : den Tryd.prog M18 c18 (argE 0 [(Value.pointer p0_r), (Value.int IntKind.u64 p1_of)]) w (retK Tryd.prog Tryd.f18.results.toList R)) : Calls Tryd.prog 18 #[(Value.pointer p0_r), (Value.int IntKind.u64 p1_of)] w R := calls_den okProg Tryd.func18 b18 n18 (Nat.le_of_ble_eq_true rfl) h
theorem t18 (p0_r : Option Addr) (p1_of : Int) (w : World) (R : Ending → World → Prop) : den Tryd.prog M18 c18 (argE 0 [(Value.pointer p0_r), (Value.int IntKind.u64 p1_of)]) w (retK Tryd.prog Tryd.f18.results.toList R) =
(Call Tryd.prog 41 [Value.pointer p0_r, Value.int IntKind.u64 p1_of, Value.func (Fn.func 42) #[] #[]]
  w fun e w' =>
  ∃ n n_1,
    e = Ending.returned (Value.tuple #[Value.int IntKind.i64 n, Value.int IntKind.i64 n_1]) ∧
      R (Ending.returned (Value.tuple #[Value.int IntKind.i64 n, Value.int IntKind.i64 n_1])) w') := by kernel_rfl
/-! (*davit/davitref10.Runq).Busiest -/
def M19 : Mt := { N := 11, keep := [(0, [0, 1]), (1, [4, 5])], ords := [], bk := [], cuts := [], lk := [] }
noncomputable def c19 : Code := bodyOf Tryd.f19
theorem b19 : Tryd.f19.body = some c19 := by kernel_rfl
theorem n19 : Tryd.f19.ntmps = M19.N := by kernel_rfl
set_option maxRecDepth 100000 in
theorem u19 {p0_r : Option Addr} {p1_of : Int} {w : World} {R : Ending → World → Prop} (h : den Tryd.prog M19 c19 (argE 0 [(Value.pointer p0_r), (Value.int IntKind.u64 p1_of)]) w (retK Tryd.prog Tryd.f19.results.toList R)) : Calls Tryd.prog 19 #[(Value.pointer p0_r), (Value.int IntKind.u64 p1_of)] w R := calls_den okProg Tryd.func19 b19 n19 (Nat.le_of_ble_eq_true rfl) h
theorem t19 (p0_r : Option Addr) (p1_of : Int) (w : World) (R : Ending → World → Prop) : den Tryd.prog M19 c19 (argE 0 [(Value.pointer p0_r), (Value.int IntKind.u64 p1_of)]) w (retK Tryd.prog Tryd.f19.results.toList R) =
(Call Tryd.prog 43 [Value.pointer p0_r, Value.int IntKind.u64 p1_of, Value.bool true] w fun e w' =>
  ∃ n n_1,
    e = Ending.returned (Value.tuple #[Value.int IntKind.i64 n, Value.int IntKind.i64 n_1]) ∧
      R (Ending.returned (Value.tuple #[Value.int IntKind.i64 n, Value.int IntKind.i64 n_1])) w') := by kernel_rfl
/-! (*davit/runq.Runq).Idlest -/
def M20 : Mt := { N := 11, keep := [(0, [0, 1]), (1, [4, 5])], ords := [], bk := [], cuts := [], lk := [] }
noncomputable def c20 : Code := bodyOf Tryd.f20
theorem b20 : Tryd.f20.body = some c20 := by kernel_rfl
theorem n20 : Tryd.f20.ntmps = M20.N := by kernel_rfl
set_option maxRecDepth 100000 in
theorem u20 {p0_r : Option Addr} {p1_of : Int} {w : World} {R : Ending → World → Prop} (h : den Tryd.prog M20 c20 (argE 0 [(Value.pointer p0_r), (Value.int IntKind.u64 p1_of)]) w (retK Tryd.prog Tryd.f20.results.toList R)) : Calls Tryd.prog 20 #[(Value.pointer p0_r), (Value.int IntKind.u64 p1_of)] w R := calls_den okProg Tryd.func20 b20 n20 (Nat.le_of_ble_eq_true rfl) h
theorem t20 (p0_r : Option Addr) (p1_of : Int) (w : World) (R : Ending → World → Prop) : den Tryd.prog M20 c20 (argE 0 [(Value.pointer p0_r), (Value.int IntKind.u64 p1_of)]) w (retK Tryd.prog Tryd.f20.results.toList R) =
(Call Tryd.prog 41 [Value.pointer p0_r, Value.int IntKind.u64 p1_of, Value.func (Fn.func 44) #[] #[]]
  w fun e w' =>
  ∃ n n_1,
    e = Ending.returned (Value.tuple #[Value.int IntKind.i64 n, Value.int IntKind.i64 n_1]) ∧
      R (Ending.returned (Value.tuple #[Value.int IntKind.i64 n, Value.int IntKind.i64 n_1])) w') := by kernel_rfl
/-! (*davit/davitref10.Runq).Idlest -/
def M21 : Mt := { N := 11, keep := [(0, [0, 1]), (1, [4, 5])], ords := [], bk := [], cuts := [], lk := [] }
noncomputable def c21 : Code := bodyOf Tryd.f21
theorem b21 : Tryd.f21.body = some c21 := by kernel_rfl
theorem n21 : Tryd.f21.ntmps = M21.N := by kernel_rfl
set_option maxRecDepth 100000 in
theorem u21 {p0_r : Option Addr} {p1_of : Int} {w : World} {R : Ending → World → Prop} (h : den Tryd.prog M21 c21 (argE 0 [(Value.pointer p0_r), (Value.int IntKind.u64 p1_of)]) w (retK Tryd.prog Tryd.f21.results.toList R)) : Calls Tryd.prog 21 #[(Value.pointer p0_r), (Value.int IntKind.u64 p1_of)] w R := calls_den okProg Tryd.func21 b21 n21 (Nat.le_of_ble_eq_true rfl) h
theorem t21 (p0_r : Option Addr) (p1_of : Int) (w : World) (R : Ending → World → Prop) : den Tryd.prog M21 c21 (argE 0 [(Value.pointer p0_r), (Value.int IntKind.u64 p1_of)]) w (retK Tryd.prog Tryd.f21.results.toList R) =
(Call Tryd.prog 43 [Value.pointer p0_r, Value.int IntKind.u64 p1_of, Value.bool false] w fun e w' =>
  ∃ n n_1,
    e = Ending.returned (Value.tuple #[Value.int IntKind.i64 n, Value.int IntKind.i64 n_1]) ∧
      R (Ending.returned (Value.tuple #[Value.int IntKind.i64 n, Value.int IntKind.i64 n_1])) w') := by kernel_rfl
/-! (*davit/runq.Runq).Pick -/
def M22 : Mt := { N := 38, keep := [(0, [0, 1]), (1, [0, 1, 6]), (2, [0, 1, 6, 13]), (3, [4, 5]), (4, [0, 1, 7, 8]), (5, [0, 1, 7, 8, 27]), (6, [4, 5]), (7, [4, 5])], ords := [], bk := [], cuts := [], lk := [] }
noncomputable def c22 : Code := bodyOf Tryd.f22
theorem b22 : Tryd.f22.body = some c22 := by kernel_rfl
theorem n22 : Tryd.f22.ntmps = M22.N := by kernel_rfl
set_option maxRecDepth 100000 in
theorem u22 {p0_r : Option Addr} {p1_cpu : Int} {w : World} {R : Ending → World → Prop} (h : den Tryd.prog M22 c22 (argE 0 [(Value.pointer p0_r), (Value.int IntKind.i64 p1_cpu)]) w (retK Tryd.prog Tryd.f22.results.toList R)) : Calls Tryd.prog 22 #[(Value.pointer p0_r), (Value.int IntKind.i64 p1_cpu)] w R := calls_den okProg Tryd.func22 b22 n22 (Nat.le_of_ble_eq_true rfl) h
theorem t22 (p0_r : Option Addr) (p1_cpu : Int) (w : World) (R : Ending → World → Prop) : den Tryd.prog M22 c22 (argE 0 [(Value.pointer p0_r), (Value.int IntKind.i64 p1_cpu)]) w (retK Tryd.prog Tryd.f22.results.toList R) =
(Call Tryd.prog 36 [Value.pointer p0_r, Value.int IntKind.i64 p1_cpu] w fun e w' =>
  ∃ n,
    e = Ending.returned (Value.int IntKind.i64 n) ∧
      ((n != (0 : Int)) = true →
          R (Ending.returned (Value.tuple #[Value.int IntKind.i64 0, Value.int IntKind.i64 n])) w') ∧
        ((n != (0 : Int)) = false →
          ∃ a,
            p0_r = some a ∧
              ∃ p n c,
                World.cell? w' (Addr.add a 0) = some (Value.slice p n c) ∧
                  ((0 : Int) ≤ p1_cpu ∧ p1_cpu < (↑n : Int)) ∧
                    ∃ a,
                      p = some a ∧
                        ∃ p,
                          World.cell? w' (Addr.add a (Int.toNat p1_cpu * 1)) = some (Value.pointer p) ∧
                            Call Tryd.prog 45 [Value.pointer p] w' fun e w' =>
                              ∃ n n_1,
                                e =
                                    Ending.returned
                                      (Value.tuple #[Value.int IntKind.i64 n, Value.int IntKind.i64 n_1]) ∧
                                  ((n_1 != (0 : Int)) = true →
                                      R
                                        (Ending.returned
                                          (Value.tuple #[Value.int IntKind.i64 0, Value.int IntKind.i64 n_1]))
                                        w') ∧
                                    ((n_1 != (0 : Int)) = false →
                                      ∃ a,
                                        p0_r = some a ∧
                                          ∃ p n_2 c,
                                            World.cell? w' (Addr.add a 0) = some (Value.slice p n_2 c) ∧
                                              ((0 : Int) ≤ p1_cpu ∧ p1_cpu < (↑n_2 : Int)) ∧
                                                ∃ a,
                                                  p = some a ∧
                                                    ∃ p,
                                                      World.cell? w' (Addr.add a (Int.toNat p1_cpu * 1)) =
                                                          some (Value.pointer p) ∧
                                                        Call Tryd.prog 46 [Value.pointer p] w' fun e w' =>
                                                          ∃ n_3,
                                                            e = Ending.returned (Value.int IntKind.i64 n_3) ∧
                                                              R
                                                                (Ending.returned
                                                                  (Value.tuple
                                                                    #[Value.int IntKind.i64 n,
                                                                      Value.int IntKind.i64 n_3]))
                                                                w'))) := by kernel_rfl
/-! (*davit/runq.Runq).Move -/
def M23 : Mt := { N := 79, keep := [(0, [0, 1, 2]), (1, [0, 1, 2, 8]), (2, [0, 1, 2, 8, 19]), (3, [6, 7]), (4, [0, 1, 2, 9]), (5, [0, 1, 2, 9, 25]), (6, [6, 7]), (7, [0, 1, 2, 10]), (8, [0, 1, 2, 10, 30]), (9, [6, 7]), (10, [0, 1, 2, 10, 34]), (11, [6, 7]), (12, [0, 1, 2, 11]), (13, [0, 1, 2, 11, 12]), (14, [0, 1, 2, 11, 14]), (15, [0, 1, 2, 11, 14, 61]), (16, [6, 7]), (17, [0, 1, 11]), (18, [6, 7])], ords := [], bk := [(0, [0, 1, 2, 10])], cuts := [], lk := [] }
noncomputable def c23 : Code := bodyOf Tryd.f23
theorem b23 : Tryd.f23.body = some c23 := by kernel_rfl
theorem n23 : Tryd.f23.ntmps = M23.N := by kernel_rfl
set_option maxRecDepth 100000 in
theorem u23 {p0_r : Option Addr} {p1_from : Int} {p2_to : Int} {w : World} {R : Ending → World → Prop} (h : den Tryd.prog M23 c23 (argE 0 [(Value.pointer p0_r), (Value.int IntKind.i64 p1_from), (Value.int IntKind.i64 p2_to)]) w (retK Tryd.prog Tryd.f23.results.toList R)) : Calls Tryd.prog 23 #[(Value.pointer p0_r), (Value.int IntKind.i64 p1_from), (Value.int IntKind.i64 p2_to)] w R := calls_den okProg Tryd.func23 b23 n23 (Nat.le_of_ble_eq_true rfl) h
theorem t23 (p0_r : Option Addr) (p1_from : Int) (p2_to : Int) (w : World) (R : Ending → World → Prop) : den Tryd.prog M23 c23 (argE 0 [(Value.pointer p0_r), (Value.int IntKind.i64 p1_from), (Value.int IntKind.i64 p2_to)]) w (retK Tryd.prog Tryd.f23.results.toList R) =
(Call Tryd.prog 36 [Value.pointer p0_r, Value.int IntKind.i64 p1_from] w fun e w' =>
  ∃ n,
    e = Ending.returned (Value.int IntKind.i64 n) ∧
      ((n != (0 : Int)) = true →
          R (Ending.returned (Value.tuple #[Value.int IntKind.i64 0, Value.int IntKind.i64 n])) w') ∧
        ((n != (0 : Int)) = false →
          Call Tryd.prog 36 [Value.pointer p0_r, Value.int IntKind.i64 p2_to] w' fun e w' =>
            ∃ n,
              e = Ending.returned (Value.int IntKind.i64 n) ∧
                ((n != (0 : Int)) = true →
                    R (Ending.returned (Value.tuple #[Value.int IntKind.i64 0, Value.int IntKind.i64 n])) w') ∧
                  ((n != (0 : Int)) = false →
                    Call Tryd.prog 16 [Value.pointer p0_r, Value.int IntKind.i64 p1_from] w' fun e w' =>
                      ∃ p n c,
                        e = Ending.returned (Value.slice p n c) ∧
                          ((p1_from == p2_to) = true →
                              R
                                (Ending.returned
                                  (Value.tuple #[Value.int IntKind.i64 0, Value.int IntKind.i64 2]))
                                w') ∧
                            ((p1_from == p2_to) = false →
                              (((↑n : Int) == (0 : Int)) = true →
                                  R
                                    (Ending.returned
                                      (Value.tuple
                                        #[Value.int IntKind.i64 0, Value.int IntKind.i64 12]))
                                    w') ∧
                                (((↑n : Int) == (0 : Int)) = false →
                                  ((0 : Int) ≤ IntKind.wrap IntKind.i64 ((↑n : Int) - (1 : Int)) ∧
                                      IntKind.wrap IntKind.i64 ((↑n : Int) - (1 : Int)) < (↑n : Int)) ∧
                                    ∃ a,
                                      p = some a ∧
                                        ∃ n_1,
                                          World.cell? w'
                                                (Addr.add a
                                                  (Int.toNat (IntKind.wrap IntKind.i64 ((↑n : Int) - (1 : Int))) *
                                                    1)) =
                                              some (Value.int IntKind.i64 n_1) ∧
                                            Call Tryd.prog 11 [Value.pointer p0_r, Value.int IntKind.i64 n_1]
                                              w' fun e w' =>
                                              ∃ n b,
                                                e =
                                                    Ending.returned
                                                      (Value.tuple #[Value.int IntKind.i64 n, Value.bool b]) ∧
                                                  ∃ a,
                                                    p0_r = some a ∧
                                                      ∃ p n_2 c,
                                                        World.cell? w' (Addr.add a 0) =
                                                            some (Value.slice p n_2 c) ∧
                                                          ((0 : Int) ≤ p2_to ∧ p2_to < (↑n_2 : Int)) ∧
                                                            ∃ a,
                                                              p = some a ∧
                                                                ∃ p,
                                                                  World.cell? w'
                                                                        (Addr.add a (Int.toNat p2_to * 1)) =
                                                                      some (Value.pointer p) ∧
                                                                    Call Tryd.prog 47
                                                                      [Value.pointer p, Value.int IntKind.i64 n,
                                                                        Value.int IntKind.i64 n_1]
                                                                      w' fun e w' =>
                                                                      ∃ n,
                                                                        e = Ending.returned (Value.int IntKind.i64 n) ∧
                                                                          ((n != (0 : Int)) = true →
                                                                              R
                                                                                (Ending.returned
                                                                                  (Value.tuple
                                                                                    #[Value.int IntKind.i64 0,
                                                                                      Value.int IntKind.i64 n]))
                                                                                w') ∧
                                                                            ((n != (0 : Int)) = false →
                                                                              ∃ a,
                                                                                p0_r = some a ∧
                                                                                  ∃ r,
                                                                                    World.cell? w'
                                                                                          (Addr.add a 1) =
                                                                                        some (Value.map r) ∧
                                                                                      ∃ w'_1,
                                                                                        Sem.run Tryd.prog
                                                                                              (Instr.mapUpdate
                                                                                                51 (Value.map r)
                                                                                                (Value.int IntKind.i64
                                                                                                  n_1)
                                                                                                (Value.int IntKind.i64
                                                                                                  p2_to))
                                                                                              w' =
                                                                                            Result.ok () w'_1 ∧
                                                                                          ∃ a,
                                                                                            p0_r = some a ∧
                                                                                              ∃ p n c,
                                                                                                World.cell? w'_1
                                                                                                      (Addr.add a
                                                                                                        0) =
                                                                                                    some
                                                                                                      (Value.slice p n
                                                                                                        c) ∧
                                                                                                  ((0 : Int) ≤
                                                                                                        p1_from ∧
                                                                                                      p1_from <
                                                                                                        (↑n : Int)) ∧
                                                                                                    ∃ a,
                                                                                                      p = some a ∧
                                                                                                        ∃ p,
                                                                                                          World.cell?
                                                                                                                w'_1
                                                                                                                (Addr.add
                                                                                                                  a
                                                                                                                  (Int.toNat
                                                                                                                      p1_from *
                                                                                                                    1)) =
                                                                                                              some
                                                                                                                (Value.pointer
                                                                                                                  p) ∧
                                                                                                            Call
                                                                                                              Tryd.prog
                                                                                                              48
                                                                                                              [Value.pointer
                                                                                                                  p,
                                                                                                                Value.int
                                                                                                                  IntKind.i64
                                                                                                                  n_1]
                                                                                                              w'_1
                                                                                                              fun e
                                                                                                                w' =>
                                                                                                              ∃ n,
                                                                                                                e =
                                                                                                                    Ending.returned
                                                                                                                      (Value.int
                                                                                                                        IntKind.i64
                                                                                                                        n) ∧
                                                                                                                  R
                                                                                                                    (Ending.returned
                                                                                                                      (Value.tuple
                                                                                                                        #[Value.int
                                                                                                                            IntKind.i64
                                                                                                                            n_1,
                                                                                                                          Value.int
                                                                                                                            IntKind.i64
                                                                                                                            n]))
                                                                                                                    w')))))) := by kernel_rfl
/-! (*davit/runq.Runq).Put -/
def M24 : Mt := { N := 48, keep := [(0, [0, 1, 2, 3]), (1, [0, 1, 2, 3, 9]), (2, [0, 1, 2, 3, 9, 17]), (3, [8]), (4, [0, 1, 2, 3, 11]), (5, [0, 1, 2, 3, 28]), (6, [8]), (7, [0, 1, 3, 12]), (8, [0, 1, 3, 12, 40]), (9, [12]), (10, [8])], ords := [], bk := [], cuts := [], lk := [] }
noncomputable def c24 : Code := bodyOf Tryd.f24
theorem b24 : Tryd.f24.body = some c24 := by kernel_rfl
theorem n24 : Tryd.f24.ntmps = M24.N := by kernel_rfl
set_option maxRecDepth 100000 in
theorem u24 {p0_r : Option Addr} {p1_cpu : Int} {p2_prio : Int} {p3_id : Int} {w : World} {R : Ending → World → Prop} (h : den Tryd.prog M24 c24 (argE 0 [(Value.pointer p0_r), (Value.int IntKind.i64 p1_cpu), (Value.int IntKind.i64 p2_prio), (Value.int IntKind.i64 p3_id)]) w (retK Tryd.prog Tryd.f24.results.toList R)) : Calls Tryd.prog 24 #[(Value.pointer p0_r), (Value.int IntKind.i64 p1_cpu), (Value.int IntKind.i64 p2_prio), (Value.int IntKind.i64 p3_id)] w R := calls_den okProg Tryd.func24 b24 n24 (Nat.le_of_ble_eq_true rfl) h
theorem t24 (p0_r : Option Addr) (p1_cpu : Int) (p2_prio : Int) (p3_id : Int) (w : World) (R : Ending → World → Prop) : den Tryd.prog M24 c24 (argE 0 [(Value.pointer p0_r), (Value.int IntKind.i64 p1_cpu), (Value.int IntKind.i64 p2_prio), (Value.int IntKind.i64 p3_id)]) w (retK Tryd.prog Tryd.f24.results.toList R) =
(Call Tryd.prog 36 [Value.pointer p0_r, Value.int IntKind.i64 p1_cpu] w fun e w' =>
  ∃ n,
    e = Ending.returned (Value.int IntKind.i64 n) ∧
      ((n != (0 : Int)) = true → R (Ending.returned (Value.int IntKind.i64 n)) w') ∧
        ((n != (0 : Int)) = false →
          ∃ a,
            p0_r = some a ∧
              ∃ r,
                World.cell? w' (Addr.add a 1) = some (Value.map r) ∧
                  ∃ n b,
                    Sem.run Tryd.prog (Instr.lookup 51 (Value.map r) (Value.int IntKind.i64 p3_id) true) w' =
                        Result.ok (Value.tuple #[Value.int IntKind.i64 n, Value.bool b]) w' ∧
                      (b = true → R (Ending.returned (Value.int IntKind.i64 6)) w') ∧
                        (b = false →
                          ∃ a,
                            p0_r = some a ∧
                              ∃ p n c,
                                World.cell? w' (Addr.add a 0) = some (Value.slice p n c) ∧
                                  ((0 : Int) ≤ p1_cpu ∧ p1_cpu < (↑n : Int)) ∧
                                    ∃ a,
                                      p = some a ∧
                                        ∃ p,
                                          World.cell? w' (Addr.add a (Int.toNat p1_cpu * 1)) =
                                              some (Value.pointer p) ∧
                                            Call Tryd.prog 47
                                              [Value.pointer p, Value.int IntKind.i64 p2_prio,
                                                Value.int IntKind.i64 p3_id]
                                              w' fun e w' =>
                                              ∃ n,
                                                e = Ending.returned (Value.int IntKind.i64 n) ∧
                                                  ((n == (0 : Int)) = true →
                                                      ∃ a,
                                                        p0_r = some a ∧
                                                          ∃ r,
                                                            World.cell? w' (Addr.add a 1) = some (Value.map r) ∧
                                                              ∃ w'_1,
                                                                Sem.run Tryd.prog
                                                                      (Instr.mapUpdate 51 (Value.map r)
                                                                        (Value.int IntKind.i64 p3_id)
                                                                        (Value.int IntKind.i64 p1_cpu))
                                                                      w' =
                                                                    Result.ok () w'_1 ∧
                                                                  R (Ending.returned (Value.int IntKind.i64 n)) w'_1) ∧
                                                    ((n == (0 : Int)) = false →
                                                      R (Ending.returned (Value.int IntKind.i64 n)) w')))) := by kernel_rfl
/-! (*davit/runq.Runq).Back -/
def M25 : Mt := { N := 19, keep := [(0, [0, 1]), (1, [1, 5, 6]), (2, [1, 5, 6, 14]), (3, [4]), (4, [4])], ords := [], bk := [], cuts := [], lk := [] }
noncomputable def c25 : Code := bodyOf Tryd.f25
theorem b25 : Tryd.f25.body = some c25 := by kernel_rfl
theorem n25 : Tryd.f25.ntmps = M25.N := by kernel_rfl
set_option maxRecDepth 100000 in
theorem u25 {p0_r : Option Addr} {p1_id : Int} {w : World} {R : Ending → World → Prop} (h : den Tryd.prog M25 c25 (argE 0 [(Value.pointer p0_r), (Value.int IntKind.i64 p1_id)]) w (retK Tryd.prog Tryd.f25.results.toList R)) : Calls Tryd.prog 25 #[(Value.pointer p0_r), (Value.int IntKind.i64 p1_id)] w R := calls_den okProg Tryd.func25 b25 n25 (Nat.le_of_ble_eq_true rfl) h
theorem t25 (p0_r : Option Addr) (p1_id : Int) (w : World) (R : Ending → World → Prop) : den Tryd.prog M25 c25 (argE 0 [(Value.pointer p0_r), (Value.int IntKind.i64 p1_id)]) w (retK Tryd.prog Tryd.f25.results.toList R) =
(Call Tryd.prog 49 [Value.pointer p0_r, Value.int IntKind.i64 p1_id] w fun e w' =>
  ∃ p n,
    e = Ending.returned (Value.tuple #[Value.pointer p, Value.int IntKind.i64 n]) ∧
      ((n != (0 : Int)) = true → R (Ending.returned (Value.int IntKind.i64 n)) w') ∧
        ((n != (0 : Int)) = false →
          Call Tryd.prog 50 [Value.pointer p, Value.int IntKind.i64 p1_id] w' fun e w' =>
            ∃ n, e = Ending.returned (Value.int IntKind.i64 n) ∧ R (Ending.returned (Value.int IntKind.i64 n)) w')) := by kernel_rfl
/-! (*davit/runq.Runq).Take -/
def M26 : Mt := { N := 24, keep := [(0, [0, 1]), (1, [0, 1, 5, 6]), (2, [0, 1, 5, 6, 14]), (3, [4]), (4, [1, 5]), (5, [4])], ords := [], bk := [], cuts := [], lk := [] }
noncomputable def c26 : Code := bodyOf Tryd.f26
theorem b26 : Tryd.f26.body = some c26 := by kernel_rfl
theorem n26 : Tryd.f26.ntmps = M26.N := by kernel_rfl
set_option maxRecDepth 100000 in
theorem u26 {p0_r : Option Addr} {p1_id : Int} {w : World} {R : Ending → World → Prop} (h : den Tryd.prog M26 c26 (argE 0 [(Value.pointer p0_r), (Value.int IntKind.i64 p1_id)]) w (retK Tryd.prog Tryd.f26.results.toList R)) : Calls Tryd.prog 26 #[(Value.pointer p0_r), (Value.int IntKind.i64 p1_id)] w R := calls_den okProg Tryd.func26 b26 n26 (Nat.le_of_ble_eq_true rfl) h
theorem t26 (p0_r : Option Addr) (p1_id : Int) (w : World) (R : Ending → World → Prop) : den Tryd.prog M26 c26 (argE 0 [(Value.pointer p0_r), (Value.int IntKind.i64 p1_id)]) w (retK Tryd.prog Tryd.f26.results.toList R) =
(Call Tryd.prog 49 [Value.pointer p0_r, Value.int IntKind.i64 p1_id] w fun e w' =>
  ∃ p n,
    e = Ending.returned (Value.tuple #[Value.pointer p, Value.int IntKind.i64 n]) ∧
      ((n != (0 : Int)) = true → R (Ending.returned (Value.int IntKind.i64 n)) w') ∧
        ((n != (0 : Int)) = false →
          ∃ a,
            p0_r = some a ∧
              ∃ r,
                World.cell? w' (Addr.add a 1) = some (Value.map r) ∧
                  ∃ w'_1,
                    Sem.run Tryd.prog
                          (Builtin.delete_ #[51, 3] 0
                            #[Value.map r, Value.int IntKind.i64 p1_id])
                          w' =
                        Result.ok (Value.tuple #[]) w'_1 ∧
                      Call Tryd.prog 48 [Value.pointer p, Value.int IntKind.i64 p1_id] w'_1 fun e w' =>
                        ∃ n,
                          e = Ending.returned (Value.int IntKind.i64 n) ∧
                            R (Ending.returned (Value.int IntKind.i64 n)) w')) := by kernel_rfl
/-! davit/prio.New -/
def M27 : Mt := { N := 31, keep := [(0, [0]), (1, [0, 4]), (2, [0, 4, 12]), (3, [0, 4, 12, 13]), (4, [0, 4, 5, 12]), (5, [0, 4, 5, 6, 7, 12]), (6, [0, 4, 5, 6, 7, 12, 21]), (7, [2, 3]), (8, [0, 4, 12]), (9, [0, 4, 12]), (10, [2, 3])], ords := [], bk := [(0, [4]), (1, [0, 4, 12])], cuts := [], lk := [(3, [0, 4, 12])] }
noncomputable def c27 : Code := bodyOf Tryd.f27
noncomputable def c27_0 : Code := c27.sr.sr.sr
noncomputable def c27_1 : Code := c27.sr.sr.sl.sr.sl.sl
def e27_1 (p0_most : Int) (p4_q : Option Addr) (p12_t : Int) : Env := [(0, SV.v (Value.int IntKind.i64 p0_most)), (4, SV.v (Value.pointer p4_q)), (12, SV.v (Value.int IntKind.i64 p12_t))]
def k27_1 (R : Ending → World → Prop) : Cont := blockK 0 [4] (seqK (fun E w => cutB (findL M27.cuts (headReg c27_0)) Tryd.prog M27 c27_0 E w (retK Tryd.prog Tryd.f27.results.toList R) fun E => den Tryd.prog M27 c27_0 E w (retK Tryd.prog Tryd.f27.results.toList R)) (retK Tryd.prog Tryd.f27.results.toList R))
theorem b27 : Tryd.f27.body = some c27 := by kernel_rfl
theorem n27 : Tryd.f27.ntmps = M27.N := by kernel_rfl
set_option maxRecDepth 100000 in
theorem u27 {p0_most : Int} {w : World} {R : Ending → World → Prop} (h : den Tryd.prog M27 c27 (argE 0 [(Value.int IntKind.i64 p0_most)]) w (retK Tryd.prog Tryd.f27.results.toList R)) : Calls Tryd.prog 27 #[(Value.int IntKind.i64 p0_most)] w R := calls_den okProg Tryd.func27 b27 n27 (Nat.le_of_ble_eq_true rfl) h
theorem t27 (p0_most : Int) (w : World) (R : Ending → World → Prop) : den Tryd.prog M27 c27 (argE 0 [(Value.int IntKind.i64 p0_most)]) w (retK Tryd.prog Tryd.f27.results.toList R) =
(NewMap w fun r w' =>
  New w'
    [Value.pointer none, Value.pointer none, Value.pointer none, Value.pointer none, Value.pointer none,
      Value.pointer none, Value.pointer none, Value.pointer none, Value.map (some r), Value.int IntKind.i64 p0_most]
    75 fun p w' =>
    Cut (WP Tryd.prog 31 (Code.loop c27_1) (e27_1 p0_most (some p) (0 : Int)) w' (k27_1 R))) := by kernel_rfl
theorem t27_1 (p0_most : Int) (p4_q : Option Addr) (p12_t : Int) (w : World) (B27_1 : Env → World → Prop) (R : Ending → World → Prop) : den Tryd.prog M27 c27_1 (e27_1 p0_most p4_q p12_t) w (loopK B27_1 (k27_1 R)) =
((decide (p12_t < (8 : Int)) = true →
    Call Tryd.prog 51 [Value.int IntKind.i64 p0_most] w fun e w' =>
      ∃ p n,
        e = Ending.returned (Value.tuple #[Value.pointer p, Value.int IntKind.i64 n]) ∧
          ((n != (0 : Int)) = true →
              R (Ending.returned (Value.tuple #[Value.pointer none, Value.int IntKind.i64 n])) w') ∧
            ((n != (0 : Int)) = false →
              ∃ a,
                p4_q = some a ∧
                  ((0 : Int) ≤ p12_t ∧ p12_t < (↑8 : Int)) ∧
                    Wr w' (Addr.add (Addr.add a 0) (Int.toNat p12_t * 1)) [Value.pointer p] fun w' =>
                      B27_1
                        [(0, SV.v (Value.int IntKind.i64 p0_most)), (4, SV.v (Value.pointer p4_q)),
                          (12, SV.v (Value.int IntKind.i64 (IntKind.wrap IntKind.i64 (p12_t + (1 : Int)))))]
                        w')) ∧
  (decide (p12_t < (8 : Int)) = false →
    R (Ending.returned (Value.tuple #[Value.pointer p4_q, Value.int IntKind.i64 0])) w)) := by kernel_rfl
/-! davit/davitref09.New -/
def M28 : Mt := { N := 13, keep := [(0, [0]), (1, [0, 9]), (2, [2, 3]), (3, [2, 3])], ords := [], bk := [], cuts := [], lk := [] }
noncomputable def c28 : Code := bodyOf Tryd.f28
theorem b28 : Tryd.f28.body = some c28 := by kernel_rfl
theorem n28 : Tryd.f28.ntmps = M28.N := by kernel_rfl
set_option maxRecDepth 100000 in
theorem u28 {p0_most : Int} {w : World} {R : Ending → World → Prop} (h : den Tryd.prog M28 c28 (argE 0 [(Value.int IntKind.i64 p0_most)]) w (retK Tryd.prog Tryd.f28.results.toList R)) : Calls Tryd.prog 28 #[(Value.int IntKind.i64 p0_most)] w R := calls_den okProg Tryd.func28 b28 n28 (Nat.le_of_ble_eq_true rfl) h
theorem t28 (p0_most : Int) (w : World) (R : Ending → World → Prop) : den Tryd.prog M28 c28 (argE 0 [(Value.int IntKind.i64 p0_most)]) w (retK Tryd.prog Tryd.f28.results.toList R) =
((decide (p0_most < (1 : Int)) = false →
    (decide (p0_most > (1024 : Int)) = true →
        R (Ending.returned (Value.tuple #[Value.pointer none, Value.int IntKind.i64 2])) w) ∧
      (decide (p0_most > (1024 : Int)) = false →
        New w [Value.int IntKind.i64 p0_most, Value.slice none 0 0] 80 fun p w' =>
          R (Ending.returned (Value.tuple #[Value.pointer (some p), Value.int IntKind.i64 0])) w')) ∧
  (decide (p0_most < (1 : Int)) = true →
    R (Ending.returned (Value.tuple #[Value.pointer none, Value.int IntKind.i64 2])) w)) := by kernel_rfl
/-! (*davit/davitref10.Runq).Put -/
def M29 : Mt := { N := 32, keep := [(0, [0, 1, 2, 3]), (1, [0, 1, 2, 3, 14]), (2, [8]), (3, [0, 1, 2, 3, 10]), (4, [0, 1, 2, 3, 21]), (5, [8]), (6, [8])], ords := [], bk := [], cuts := [], lk := [] }
noncomputable def c29 : Code := bodyOf Tryd.f29
theorem b29 : Tryd.f29.body = some c29 := by kernel_rfl
theorem n29 : Tryd.f29.ntmps = M29.N := by kernel_rfl
set_option maxRecDepth 100000 in
theorem u29 {p0_r : Option Addr} {p1_cpu : Int} {p2_p : Int} {p3_id : Int} {w : World} {R : Ending → World → Prop} (h : den Tryd.prog M29 c29 (argE 0 [(Value.pointer p0_r), (Value.int IntKind.i64 p1_cpu), (Value.int IntKind.i64 p2_p), (Value.int IntKind.i64 p3_id)]) w (retK Tryd.prog Tryd.f29.results.toList R)) : Calls Tryd.prog 29 #[(Value.pointer p0_r), (Value.int IntKind.i64 p1_cpu), (Value.int IntKind.i64 p2_p), (Value.int IntKind.i64 p3_id)] w R := calls_den okProg Tryd.func29 b29 n29 (Nat.le_of_ble_eq_true rfl) h
theorem t29 (p0_r : Option Addr) (p1_cpu : Int) (p2_p : Int) (p3_id : Int) (w : World) (R : Ending → World → Prop) : den Tryd.prog M29 c29 (argE 0 [(Value.pointer p0_r), (Value.int IntKind.i64 p1_cpu), (Value.int IntKind.i64 p2_p), (Value.int IntKind.i64 p3_id)]) w (retK Tryd.prog Tryd.f29.results.toList R) =
(Call Tryd.prog 39 [Value.pointer p0_r, Value.int IntKind.i64 p1_cpu] w fun e w' =>
  ∃ b,
    e = Ending.returned (Value.bool b) ∧
      ((!b) = true → R (Ending.returned (Value.int IntKind.i64 3)) w') ∧
        ((!b) = false →
          Call Tryd.prog 10 [Value.pointer p0_r, Value.int IntKind.i64 p3_id] w' fun e w' =>
            ∃ n b,
              e = Ending.returned (Value.tuple #[Value.int IntKind.i64 n, Value.bool b]) ∧
                (b = true → R (Ending.returned (Value.int IntKind.i64 6)) w') ∧
                  (b = false →
                    ∃ a,
                      p0_r = some a ∧
                        ∃ p n c,
                          World.cell? w' (Addr.add a 0) = some (Value.slice p n c) ∧
                            ((0 : Int) ≤ p1_cpu ∧ p1_cpu < (↑n : Int)) ∧
                              ∃ a,
                                p = some a ∧
                                  ∃ p,
                                    World.cell? w' (Addr.add a (Int.toNat p1_cpu * 1)) =
                                        some (Value.pointer p) ∧
                                      Call Tryd.prog 52
                                        [Value.pointer p, Value.int IntKind.i64 p2_p, Value.int IntKind.i64 p3_id] w'
                                        fun e w' =>
                                        ∃ n,
                                          e = Ending.returned (Value.int IntKind.i64 n) ∧
                                            R (Ending.returned (Value.int IntKind.i64 n)) w'))) := by kernel_rfl
/-! (*davit/davitref10.Runq).Pick -/
def M30 : Mt := { N := 35, keep := [(0, [0, 1]), (1, [0, 1, 11]), (2, [4, 5]), (3, [0, 1, 6, 7]), (4, [0, 1, 6, 7, 24]), (5, [6, 7]), (6, [4, 5])], ords := [], bk := [], cuts := [], lk := [] }
noncomputable def c30 : Code := bodyOf Tryd.f30
theorem b30 : Tryd.f30.body = some c30 := by kernel_rfl
theorem n30 : Tryd.f30.ntmps = M30.N := by kernel_rfl
set_option maxRecDepth 100000 in
theorem u30 {p0_r : Option Addr} {p1_cpu : Int} {w : World} {R : Ending → World → Prop} (h : den Tryd.prog M30 c30 (argE 0 [(Value.pointer p0_r), (Value.int IntKind.i64 p1_cpu)]) w (retK Tryd.prog Tryd.f30.results.toList R)) : Calls Tryd.prog 30 #[(Value.pointer p0_r), (Value.int IntKind.i64 p1_cpu)] w R := calls_den okProg Tryd.func30 b30 n30 (Nat.le_of_ble_eq_true rfl) h
theorem t30 (p0_r : Option Addr) (p1_cpu : Int) (w : World) (R : Ending → World → Prop) : den Tryd.prog M30 c30 (argE 0 [(Value.pointer p0_r), (Value.int IntKind.i64 p1_cpu)]) w (retK Tryd.prog Tryd.f30.results.toList R) =
(Call Tryd.prog 39 [Value.pointer p0_r, Value.int IntKind.i64 p1_cpu] w fun e w' =>
  ∃ b,
    e = Ending.returned (Value.bool b) ∧
      ((!b) = true →
          R (Ending.returned (Value.tuple #[Value.int IntKind.i64 0, Value.int IntKind.i64 3])) w') ∧
        ((!b) = false →
          ∃ a,
            p0_r = some a ∧
              ∃ p n c,
                World.cell? w' (Addr.add a 0) = some (Value.slice p n c) ∧
                  ((0 : Int) ≤ p1_cpu ∧ p1_cpu < (↑n : Int)) ∧
                    ∃ a,
                      p = some a ∧
                        ∃ p,
                          World.cell? w' (Addr.add a (Int.toNat p1_cpu * 1)) = some (Value.pointer p) ∧
                            Call Tryd.prog 53 [Value.pointer p] w' fun e w' =>
                              ∃ n n_1,
                                e =
                                    Ending.returned
                                      (Value.tuple #[Value.int IntKind.i64 n, Value.int IntKind.i64 n_1]) ∧
                                  ((n_1 == (0 : Int)) = true →
                                      ∃ a,
                                        p0_r = some a ∧
                                          ∃ p n_2 c,
                                            World.cell? w' (Addr.add a 0) = some (Value.slice p n_2 c) ∧
                                              ((0 : Int) ≤ p1_cpu ∧ p1_cpu < (↑n_2 : Int)) ∧
                                                ∃ a,
                                                  p = some a ∧
                                                    ∃ p,
                                                      World.cell? w' (Addr.add a (Int.toNat p1_cpu * 1)) =
                                                          some (Value.pointer p) ∧
                                                        Call Tryd.prog 54 [Value.pointer p] w' fun e w' =>
                                                          ∃ n_3,
                                                            e = Ending.returned (Value.int IntKind.i64 n_3) ∧
                                                              R
                                                                (Ending.returned
                                                                  (Value.tuple
                                                                    #[Value.int IntKind.i64 n,
                                                                      Value.int IntKind.i64 n_1]))
                                                                w') ∧
                                    ((n_1 == (0 : Int)) = false →
                                      R
                                        (Ending.returned
                                          (Value.tuple #[Value.int IntKind.i64 n, Value.int IntKind.i64 n_1]))
                                        w'))) := by kernel_rfl
/-! (*davit/davitref10.Runq).Back -/
def M31 : Mt := { N := 24, keep := [(0, [0, 1]), (1, [0, 1, 5, 6]), (2, [0, 1, 5, 14]), (3, [4]), (4, [4])], ords := [], bk := [], cuts := [], lk := [] }
noncomputable def c31 : Code := bodyOf Tryd.f31
theorem b31 : Tryd.f31.body = some c31 := by kernel_rfl
theorem n31 : Tryd.f31.ntmps = M31.N := by kernel_rfl
set_option maxRecDepth 100000 in
theorem u31 {p0_r : Option Addr} {p1_id : Int} {w : World} {R : Ending → World → Prop} (h : den Tryd.prog M31 c31 (argE 0 [(Value.pointer p0_r), (Value.int IntKind.i64 p1_id)]) w (retK Tryd.prog Tryd.f31.results.toList R)) : Calls Tryd.prog 31 #[(Value.pointer p0_r), (Value.int IntKind.i64 p1_id)] w R := calls_den okProg Tryd.func31 b31 n31 (Nat.le_of_ble_eq_true rfl) h
theorem t31 (p0_r : Option Addr) (p1_id : Int) (w : World) (R : Ending → World → Prop) : den Tryd.prog M31 c31 (argE 0 [(Value.pointer p0_r), (Value.int IntKind.i64 p1_id)]) w (retK Tryd.prog Tryd.f31.results.toList R) =
(Call Tryd.prog 10 [Value.pointer p0_r, Value.int IntKind.i64 p1_id] w fun e w' =>
  ∃ n b,
    e = Ending.returned (Value.tuple #[Value.int IntKind.i64 n, Value.bool b]) ∧
      ((!b) = true → R (Ending.returned (Value.int IntKind.i64 4)) w') ∧
        ((!b) = false →
          ∃ a,
            p0_r = some a ∧
              ∃ p n_1 c,
                World.cell? w' (Addr.add a 0) = some (Value.slice p n_1 c) ∧
                  ((0 : Int) ≤ n ∧ n < (↑n_1 : Int)) ∧
                    ∃ a,
                      p = some a ∧
                        ∃ p,
                          World.cell? w' (Addr.add a (Int.toNat n * 1)) = some (Value.pointer p) ∧
                            Call Tryd.prog 55 [Value.pointer p, Value.int IntKind.i64 p1_id] w' fun e w' =>
                              ∃ n,
                                e = Ending.returned (Value.int IntKind.i64 n) ∧
                                  R (Ending.returned (Value.int IntKind.i64 n)) w')) := by kernel_rfl
/-! (*davit/davitref10.Runq).Take -/
def M32 : Mt := { N := 24, keep := [(0, [0, 1]), (1, [0, 1, 5, 6]), (2, [0, 1, 5, 14]), (3, [4]), (4, [4])], ords := [], bk := [], cuts := [], lk := [] }
noncomputable def c32 : Code := bodyOf Tryd.f32
theorem b32 : Tryd.f32.body = some c32 := by kernel_rfl
theorem n32 : Tryd.f32.ntmps = M32.N := by kernel_rfl
set_option maxRecDepth 100000 in
theorem u32 {p0_r : Option Addr} {p1_id : Int} {w : World} {R : Ending → World → Prop} (h : den Tryd.prog M32 c32 (argE 0 [(Value.pointer p0_r), (Value.int IntKind.i64 p1_id)]) w (retK Tryd.prog Tryd.f32.results.toList R)) : Calls Tryd.prog 32 #[(Value.pointer p0_r), (Value.int IntKind.i64 p1_id)] w R := calls_den okProg Tryd.func32 b32 n32 (Nat.le_of_ble_eq_true rfl) h
theorem t32 (p0_r : Option Addr) (p1_id : Int) (w : World) (R : Ending → World → Prop) : den Tryd.prog M32 c32 (argE 0 [(Value.pointer p0_r), (Value.int IntKind.i64 p1_id)]) w (retK Tryd.prog Tryd.f32.results.toList R) =
(Call Tryd.prog 10 [Value.pointer p0_r, Value.int IntKind.i64 p1_id] w fun e w' =>
  ∃ n b,
    e = Ending.returned (Value.tuple #[Value.int IntKind.i64 n, Value.bool b]) ∧
      ((!b) = true → R (Ending.returned (Value.int IntKind.i64 4)) w') ∧
        ((!b) = false →
          ∃ a,
            p0_r = some a ∧
              ∃ p n_1 c,
                World.cell? w' (Addr.add a 0) = some (Value.slice p n_1 c) ∧
                  ((0 : Int) ≤ n ∧ n < (↑n_1 : Int)) ∧
                    ∃ a,
                      p = some a ∧
                        ∃ p,
                          World.cell? w' (Addr.add a (Int.toNat n * 1)) = some (Value.pointer p) ∧
                            Call Tryd.prog 56 [Value.pointer p, Value.int IntKind.i64 p1_id] w' fun e w' =>
                              ∃ n,
                                e = Ending.returned (Value.int IntKind.i64 n) ∧
                                  R (Ending.returned (Value.int IntKind.i64 n)) w')) := by kernel_rfl
/-! (*davit/davitref10.Runq).Move -/
def M33 : Mt := { N := 73, keep := [(0, [0, 1, 2]), (1, [0, 1, 2, 22]), (2, [6, 7]), (3, [0, 1, 2, 25]), (4, [6, 7]), (5, [0, 1, 2, 8]), (6, [0, 1, 2, 8, 31]), (7, [6, 7]), (8, [0, 1, 2, 9]), (9, [0, 1, 2, 9, 10]), (10, [0, 1, 9, 12]), (11, [0, 1, 9, 12, 61]), (12, [6, 7]), (13, [9]), (14, [6, 7])], ords := [], bk := [], cuts := [], lk := [] }
noncomputable def c33 : Code := bodyOf Tryd.f33
theorem b33 : Tryd.f33.body = some c33 := by kernel_rfl
theorem n33 : Tryd.f33.ntmps = M33.N := by kernel_rfl
set_option maxRecDepth 100000 in
theorem u33 {p0_r : Option Addr} {p1_from : Int} {p2_to : Int} {w : World} {R : Ending → World → Prop} (h : den Tryd.prog M33 c33 (argE 0 [(Value.pointer p0_r), (Value.int IntKind.i64 p1_from), (Value.int IntKind.i64 p2_to)]) w (retK Tryd.prog Tryd.f33.results.toList R)) : Calls Tryd.prog 33 #[(Value.pointer p0_r), (Value.int IntKind.i64 p1_from), (Value.int IntKind.i64 p2_to)] w R := calls_den okProg Tryd.func33 b33 n33 (Nat.le_of_ble_eq_true rfl) h
theorem t33 (p0_r : Option Addr) (p1_from : Int) (p2_to : Int) (w : World) (R : Ending → World → Prop) : den Tryd.prog M33 c33 (argE 0 [(Value.pointer p0_r), (Value.int IntKind.i64 p1_from), (Value.int IntKind.i64 p2_to)]) w (retK Tryd.prog Tryd.f33.results.toList R) =
(Call Tryd.prog 39 [Value.pointer p0_r, Value.int IntKind.i64 p1_from] w fun e w' =>
  ∃ b,
    e = Ending.returned (Value.bool b) ∧
      ((!b) = false →
          Call Tryd.prog 39 [Value.pointer p0_r, Value.int IntKind.i64 p2_to] w' fun e w' =>
            ∃ b,
              e = Ending.returned (Value.bool b) ∧
                ((!b) = true →
                    R
                      (Ending.returned
                        (Value.tuple #[Value.int IntKind.i64 0, Value.int IntKind.i64 3]))
                      w') ∧
                  ((!b) = false →
                    ((p1_from == p2_to) = true →
                        R
                          (Ending.returned
                            (Value.tuple #[Value.int IntKind.i64 0, Value.int IntKind.i64 2]))
                          w') ∧
                      ((p1_from == p2_to) = false →
                        Call Tryd.prog 17 [Value.pointer p0_r, Value.int IntKind.i64 p1_from] w' fun e w' =>
                          ∃ p n c,
                            e = Ending.returned (Value.slice p n c) ∧
                              (((↑n : Int) == (0 : Int)) = true →
                                  R
                                    (Ending.returned
                                      (Value.tuple
                                        #[Value.int IntKind.i64 0, Value.int IntKind.i64 12]))
                                    w') ∧
                                (((↑n : Int) == (0 : Int)) = false →
                                  ((0 : Int) ≤ IntKind.wrap IntKind.i64 ((↑n : Int) - (1 : Int)) ∧
                                      IntKind.wrap IntKind.i64 ((↑n : Int) - (1 : Int)) < (↑n : Int)) ∧
                                    ∃ a,
                                      p = some a ∧
                                        ∃ n_1,
                                          World.cell? w'
                                                (Addr.add a
                                                  (Int.toNat (IntKind.wrap IntKind.i64 ((↑n : Int) - (1 : Int))) *
                                                    1)) =
                                              some (Value.int IntKind.i64 n_1) ∧
                                            ∃ a,
                                              p0_r = some a ∧
                                                ∃ p n c,
                                                  World.cell? w' (Addr.add a 0) = some (Value.slice p n c) ∧
                                                    ((0 : Int) ≤ p1_from ∧ p1_from < (↑n : Int)) ∧
                                                      ∃ a,
                                                        p = some a ∧
                                                          ∃ p,
                                                            World.cell? w'
                                                                  (Addr.add a (Int.toNat p1_from * 1)) =
                                                                some (Value.pointer p) ∧
                                                              Call Tryd.prog 34
                                                                [Value.pointer p, Value.int IntKind.i64 n_1] w'
                                                                fun e w' =>
                                                                ∃ n b,
                                                                  e =
                                                                      Ending.returned
                                                                        (Value.tuple
                                                                          #[Value.int IntKind.i64 n, Value.bool b]) ∧
                                                                    ∃ a,
                                                                      p0_r = some a ∧
                                                                        ∃ p n_2 c,
                                                                          World.cell? w' (Addr.add a 0) =
                                                                              some (Value.slice p n_2 c) ∧
                                                                            ((0 : Int) ≤ p2_to ∧
                                                                                p2_to < (↑n_2 : Int)) ∧
                                                                              ∃ a,
                                                                                p = some a ∧
                                                                                  ∃ p,
                                                                                    World.cell? w'
                                                                                          (Addr.add a
                                                                                            (Int.toNat p2_to *
                                                                                              1)) =
                                                                                        some (Value.pointer p) ∧
                                                                                      Call Tryd.prog 52
                                                                                        [Value.pointer p,
                                                                                          Value.int IntKind.i64 n,
                                                                                          Value.int IntKind.i64 n_1]
                                                                                        w' fun e w' =>
                                                                                        ∃ n,
                                                                                          e =
                                                                                              Ending.returned
                                                                                                (Value.int IntKind.i64
                                                                                                  n) ∧
                                                                                            ((n != (0 : Int)) = true →
                                                                                                R
                                                                                                  (Ending.returned
                                                                                                    (Value.tuple
                                                                                                      #[Value.int
                                                                                                          IntKind.i64
                                                                                                          (0 : Int),
                                                                                                        Value.int
                                                                                                          IntKind.i64
                                                                                                          n]))
                                                                                                  w') ∧
                                                                                              ((n != (0 : Int)) =
                                                                                                  false →
                                                                                                ∃ a,
                                                                                                  p0_r = some a ∧
                                                                                                    ∃ p n c,
                                                                                                      World.cell? w'
                                                                                                            (Addr.add a
                                                                                                              0) =
                                                                                                          some
                                                                                                            (Value.slice
                                                                                                              p n c) ∧
                                                                                                        ((0 : Int) ≤
                                                                                                              p1_from ∧
                                                                                                            p1_from <
                                                                                                              (↑n :
                                                                                                                Int)) ∧
                                                                                                          ∃ a,
                                                                                                            p = some a ∧
                                                                                                              ∃ p,
                                                                                                                World.cell?
                                                                                                                      w'
                                                                                                                      (Addr.add
                                                                                                                        a
                                                                                                                        (Int.toNat
                                                                                                                            p1_from *
                                                                                                                          1)) =
                                                                                                                    some
                                                                                                                      (Value.pointer
                                                                                                                        p) ∧
                                                                                                                  Call
                                                                                                                    Tryd.prog
                                                                                                                    56
                                                                                                                    [Value.pointer
                                                                                                                        p,
                                                                                                                      Value.int
                                                                                                                        IntKind.i64
                                                                                                                        n_1]
                                                                                                                    w'
                                                                                                                    fun
                                                                                                                      e
                                                                                                                      w' =>
                                                                                                                    ∃ n,
                                                                                                                      e =
                                                                                                                          Ending.returned
                                                                                                                            (Value.int
                                                                                                                              IntKind.i64
                                                                                                                              n) ∧
                                                                                                                        R
                                                                                                                          (Ending.returned
                                                                                                                            (Value.tuple
                                                                                                                              #[Value.int
                                                                                                                                  IntKind.i64
                                                                                                                                  n_1,
                                                                                                                                Value.int
                                                                                                                                  IntKind.i64
                                                                                                                                  (0 :
                                                                                                                                    Int)]))
                                                                                                                          w'))))) ∧
        ((!b) = true →
          R (Ending.returned (Value.tuple #[Value.int IntKind.i64 0, Value.int IntKind.i64 3])) w')) := by kernel_rfl
/-! (*davit/davitref09.Queue).Prio -/
def M34 : Mt := { N := 20, keep := [(0, [0, 1]), (1, [0, 6]), (2, [0, 6, 11]), (3, [4, 5]), (4, [4, 5])], ords := [], bk := [], cuts := [], lk := [] }
noncomputable def c34 : Code := bodyOf Tryd.f34
theorem b34 : Tryd.f34.body = some c34 := by kernel_rfl
theorem n34 : Tryd.f34.ntmps = M34.N := by kernel_rfl
set_option maxRecDepth 100000 in
theorem u34 {p0_q : Option Addr} {p1_id : Int} {w : World} {R : Ending → World → Prop} (h : den Tryd.prog M34 c34 (argE 0 [(Value.pointer p0_q), (Value.int IntKind.i64 p1_id)]) w (retK Tryd.prog Tryd.f34.results.toList R)) : Calls Tryd.prog 34 #[(Value.pointer p0_q), (Value.int IntKind.i64 p1_id)] w R := calls_den okProg Tryd.func34 b34 n34 (Nat.le_of_ble_eq_true rfl) h
theorem t34 (p0_q : Option Addr) (p1_id : Int) (w : World) (R : Ending → World → Prop) : den Tryd.prog M34 c34 (argE 0 [(Value.pointer p0_q), (Value.int IntKind.i64 p1_id)]) w (retK Tryd.prog Tryd.f34.results.toList R) =
(Call Tryd.prog 57 [Value.pointer p0_q, Value.int IntKind.i64 p1_id] w fun e w' =>
  ∃ n,
    e = Ending.returned (Value.int IntKind.i64 n) ∧
      (decide (n < (0 : Int)) = true →
          R (Ending.returned (Value.tuple #[Value.int IntKind.i64 0, Value.bool false])) w') ∧
        (decide (n < (0 : Int)) = false →
          ∃ a,
            p0_q = some a ∧
              ∃ p n_1 c,
                World.cell? w' (Addr.add a 1) = some (Value.slice p n_1 c) ∧
                  ((0 : Int) ≤ n ∧ n < (↑n_1 : Int)) ∧
                    ∃ a,
                      p = some a ∧
                        ∃ n_2,
                          World.cell? w' (Addr.add (Addr.add a (Int.toNat n * 2)) 0) =
                              some (Value.int IntKind.i64 n_2) ∧
                            R (Ending.returned (Value.tuple #[Value.int IntKind.i64 n_2, Value.bool true])) w')) := by kernel_rfl
/-! (*davit/prio.Queue).Prio -/
def M35 : Mt := { N := 21, keep := [(0, [0, 1]), (1, [0, 1, 9]), (2, [4, 5]), (3, [6, 7]), (4, [4, 5])], ords := [], bk := [], cuts := [], lk := [] }
noncomputable def c35 : Code := bodyOf Tryd.f35
theorem b35 : Tryd.f35.body = some c35 := by kernel_rfl
theorem n35 : Tryd.f35.ntmps = M35.N := by kernel_rfl
set_option maxRecDepth 100000 in
theorem u35 {p0_q : Option Addr} {p1_id : Int} {w : World} {R : Ending → World → Prop} (h : den Tryd.prog M35 c35 (argE 0 [(Value.pointer p0_q), (Value.int IntKind.i64 p1_id)]) w (retK Tryd.prog Tryd.f35.results.toList R)) : Calls Tryd.prog 35 #[(Value.pointer p0_q), (Value.int IntKind.i64 p1_id)] w R := calls_den okProg Tryd.func35 b35 n35 (Nat.le_of_ble_eq_true rfl) h
theorem t35 (p0_q : Option Addr) (p1_id : Int) (w : World) (R : Ending → World → Prop) : den Tryd.prog M35 c35 (argE 0 [(Value.pointer p0_q), (Value.int IntKind.i64 p1_id)]) w (retK Tryd.prog Tryd.f35.results.toList R) =
((Option.isNone p0_q = true →
    R (Ending.returned (Value.tuple #[Value.int IntKind.i64 0, Value.bool false])) w) ∧
  (Option.isNone p0_q = false →
    ∃ a,
      p0_q = some a ∧
        ∃ r,
          World.cell? w (Addr.add a 8) = some (Value.map r) ∧
            ∃ n b,
              Sem.run Tryd.prog (Instr.lookup 51 (Value.map r) (Value.int IntKind.i64 p1_id) true) w =
                  Result.ok (Value.tuple #[Value.int IntKind.i64 n, Value.bool b]) w ∧
                R (Ending.returned (Value.tuple #[Value.int IntKind.i64 n, Value.bool b])) w)) := by kernel_rfl
/-! (*davit/runq.Runq).may -/
def M36 : Mt := { N := 20, keep := [(0, [0, 1]), (1, [0, 1, 5]), (2, [4]), (3, [8]), (4, [4]), (5, [4])], ords := [], bk := [(0, [])], cuts := [], lk := [] }
noncomputable def c36 : Code := bodyOf Tryd.f36
theorem b36 : Tryd.f36.body = some c36 := by kernel_rfl
theorem n36 : Tryd.f36.ntmps = M36.N := by kernel_rfl
set_option maxRecDepth 100000 in
theorem u36 {p0_r : Option Addr} {p1_cpu : Int} {w : World} {R : Ending → World → Prop} (h : den Tryd.prog M36 c36 (argE 0 [(Value.pointer p0_r), (Value.int IntKind.i64 p1_cpu)]) w (retK Tryd.prog Tryd.f36.results.toList R)) : Calls Tryd.prog 36 #[(Value.pointer p0_r), (Value.int IntKind.i64 p1_cpu)] w R := calls_den okProg Tryd.func36 b36 n36 (Nat.le_of_ble_eq_true rfl) h
theorem t36 (p0_r : Option Addr) (p1_cpu : Int) (w : World) (R : Ending → World → Prop) : den Tryd.prog M36 c36 (argE 0 [(Value.pointer p0_r), (Value.int IntKind.i64 p1_cpu)]) w (retK Tryd.prog Tryd.f36.results.toList R) =
((Option.isNone p0_r = true → R (Ending.returned (Value.int IntKind.i64 1)) w) ∧
  (Option.isNone p0_r = false →
    (decide (p1_cpu < (0 : Int)) = false →
        ∃ a,
          p0_r = some a ∧
            ∃ p n c,
              World.cell? w (Addr.add a 0) = some (Value.slice p n c) ∧
                (decide (p1_cpu ≥ (↑n : Int)) = true → R (Ending.returned (Value.int IntKind.i64 3)) w) ∧
                  (decide (p1_cpu ≥ (↑n : Int)) = false → R (Ending.returned (Value.int IntKind.i64 0)) w)) ∧
      (decide (p1_cpu < (0 : Int)) = true → R (Ending.returned (Value.int IntKind.i64 3)) w))) := by kernel_rfl
/-! (*davit/prio.Queue).Len -/
def M37 : Mt := { N := 10, keep := [(0, [0]), (1, [0, 4]), (2, [2]), (3, [2])], ords := [], bk := [], cuts := [], lk := [] }
noncomputable def c37 : Code := bodyOf Tryd.f37
theorem b37 : Tryd.f37.body = some c37 := by kernel_rfl
theorem n37 : Tryd.f37.ntmps = M37.N := by kernel_rfl
set_option maxRecDepth 100000 in
theorem u37 {p0_q : Option Addr} {w : World} {R : Ending → World → Prop} (h : den Tryd.prog M37 c37 (argE 0 [(Value.pointer p0_q)]) w (retK Tryd.prog Tryd.f37.results.toList R)) : Calls Tryd.prog 37 #[(Value.pointer p0_q)] w R := calls_den okProg Tryd.func37 b37 n37 (Nat.le_of_ble_eq_true rfl) h
theorem t37 (p0_q : Option Addr) (w : World) (R : Ending → World → Prop) : den Tryd.prog M37 c37 (argE 0 [(Value.pointer p0_q)]) w (retK Tryd.prog Tryd.f37.results.toList R) =
((Option.isNone p0_q = true → R (Ending.returned (Value.int IntKind.i64 0)) w) ∧
  (Option.isNone p0_q = false →
    ∃ a,
      p0_q = some a ∧
        ∃ r,
          World.cell? w (Addr.add a 8) = some (Value.map r) ∧
            ∃ (n : Nat),
              (∀ (ty : TypeId),
                  Sem.run Tryd.prog (Builtin.len_ #[51] ty #[Value.map r]) w =
                    Result.ok (Value.int IntKind.i64 (↑n : Int)) w) ∧
                R (Ending.returned (Value.int IntKind.i64 (↑n : Int))) w)) := by kernel_rfl
/-! (*davit/davitref10.Runq).Is -/
def M39 : Mt := { N := 16, keep := [(0, [0, 1]), (1, [4])], ords := [], bk := [], cuts := [], lk := [] }
noncomputable def c39 : Code := bodyOf Tryd.f39
theorem b39 : Tryd.f39.body = some c39 := by kernel_rfl
theorem n39 : Tryd.f39.ntmps = M39.N := by kernel_rfl
set_option maxRecDepth 100000 in
theorem u39 {p0_r : Option Addr} {p1_cpu : Int} {w : World} {R : Ending → World → Prop} (h : den Tryd.prog M39 c39 (argE 0 [(Value.pointer p0_r), (Value.int IntKind.i64 p1_cpu)]) w (retK Tryd.prog Tryd.f39.results.toList R)) : Calls Tryd.prog 39 #[(Value.pointer p0_r), (Value.int IntKind.i64 p1_cpu)] w R := calls_den okProg Tryd.func39 b39 n39 (Nat.le_of_ble_eq_true rfl) h
theorem t39 (p0_r : Option Addr) (p1_cpu : Int) (w : World) (R : Ending → World → Prop) : den Tryd.prog M39 c39 (argE 0 [(Value.pointer p0_r), (Value.int IntKind.i64 p1_cpu)]) w (retK Tryd.prog Tryd.f39.results.toList R) =
((decide (p1_cpu ≥ (0 : Int)) = true →
    ∃ a,
      p0_r = some a ∧
        ∃ p n c,
          World.cell? w (Addr.add a 0) = some (Value.slice p n c) ∧
            R (Ending.returned (Value.bool (decide (p1_cpu < (↑n : Int))))) w) ∧
  (decide (p1_cpu ≥ (0 : Int)) = false → R (Ending.returned (Value.bool false)) w)) := by kernel_rfl
/-! (*davit/davitref09.Queue).List -/
def M40 : Mt := { N := 41, keep := [(0, [0]), (1, [0, 3]), (2, [0, 3, 4]), (3, [0, 3, 4, 7]), (4, [0, 3, 4]), (5, [0, 3, 4, 5]), (6, [0, 3, 4, 5, 16]), (7, [0, 3, 4, 5]), (8, [0, 3, 4, 5, 28]), (9, [0, 3, 4, 5]), (10, [2])], ords := [], bk := [(0, [3]), (1, [0, 3, 4]), (2, [0, 3, 4]), (3, [0, 3, 4, 5])], cuts := [], lk := [(3, [0, 3, 4]), (6, [0, 3, 4, 5])] }
noncomputable def c40 : Code := bodyOf Tryd.f40
noncomputable def c40_0 : Code := c40.sr.sr.sr
noncomputable def c40_1 : Code := c40.sr.sr.sl.sr.sl.sl
noncomputable def c40_2 : Code := c40.sr.sr.sl.sr.sl.sl.sr.sr
noncomputable def c40_3 : Code := c40.sr.sr.sl.sr.sl.sl.sr.sl.sl.sr.sl.sl
def e40_1 (p0_q : Option Addr) (p3_out_a : Option Addr) (p3_out_n : Nat) (p3_out_c : Nat) (p4_p : Int) : Env := [(0, SV.v (Value.pointer p0_q)), (3, SV.v (Value.slice p3_out_a p3_out_n p3_out_c)), (4, SV.v (Value.int IntKind.i64 p4_p))]
def e40_3 (p0_q : Option Addr) (p3_out_a : Option Addr) (p3_out_n : Nat) (p3_out_c : Nat) (p4_p : Int) (p5_i : Int) : Env := [(0, SV.v (Value.pointer p0_q)), (3, SV.v (Value.slice p3_out_a p3_out_n p3_out_c)), (4, SV.v (Value.int IntKind.i64 p4_p)), (5, SV.v (Value.int IntKind.i64 p5_i))]
def k40_1 (R : Ending → World → Prop) : Cont := blockK 0 [3] (seqK (fun E w => cutB (findL M40.cuts (headReg c40_0)) Tryd.prog M40 c40_0 E w (retK Tryd.prog Tryd.f40.results.toList R) fun E => den Tryd.prog M40 c40_0 E w (retK Tryd.prog Tryd.f40.results.toList R)) (retK Tryd.prog Tryd.f40.results.toList R))
def k40_3 (B40_1 : Env → World → Prop) (R : Ending → World → Prop) : Cont := blockK 2 [0, 3, 4] (blockK 1 [0, 3, 4] (seqK (fun E w => cutB (findL M40.cuts (headReg c40_2)) Tryd.prog M40 c40_2 E w (loopK B40_1 (blockK 0 [3] (seqK (fun E w => cutB (findL M40.cuts (headReg c40_0)) Tryd.prog M40 c40_0 E w (retK Tryd.prog Tryd.f40.results.toList R) fun E => den Tryd.prog M40 c40_0 E w (retK Tryd.prog Tryd.f40.results.toList R)) (retK Tryd.prog Tryd.f40.results.toList R)))) fun E => den Tryd.prog M40 c40_2 E w (loopK B40_1 (blockK 0 [3] (seqK (fun E w => cutB (findL M40.cuts (headReg c40_0)) Tryd.prog M40 c40_0 E w (retK Tryd.prog Tryd.f40.results.toList R) fun E => den Tryd.prog M40 c40_0 E w (retK Tryd.prog Tryd.f40.results.toList R)) (retK Tryd.prog Tryd.f40.results.toList R))))) (loopK B40_1 (blockK 0 [3] (seqK (fun E w => cutB (findL M40.cuts (headReg c40_0)) Tryd.prog M40 c40_0 E w (retK Tryd.prog Tryd.f40.results.toList R) fun E => den Tryd.prog M40 c40_0 E w (retK Tryd.prog Tryd.f40.results.toList R)) (retK Tryd.prog Tryd.f40.results.toList R))))))
theorem b40 : Tryd.f40.body = some c40 := by kernel_rfl
theorem n40 : Tryd.f40.ntmps = M40.N := by kernel_rfl
set_option maxRecDepth 100000 in
theorem u40 {p0_q : Option Addr} {w : World} {R : Ending → World → Prop} (h : den Tryd.prog M40 c40 (argE 0 [(Value.pointer p0_q)]) w (retK Tryd.prog Tryd.f40.results.toList R)) : Calls Tryd.prog 40 #[(Value.pointer p0_q)] w R := calls_den okProg Tryd.func40 b40 n40 (Nat.le_of_ble_eq_true rfl) h
theorem t40 (p0_q : Option Addr) (w : World) (R : Ending → World → Prop) : den Tryd.prog M40 c40 (argE 0 [(Value.pointer p0_q)]) w (retK Tryd.prog Tryd.f40.results.toList R) =
(Cut (WP Tryd.prog 41 (Code.loop c40_1) (e40_1 p0_q none 0 0 (7 : Int)) w (k40_1 R))) := by kernel_rfl
theorem t40_1 (p0_q : Option Addr) (p3_out_a : Option Addr) (p3_out_n : Nat) (p3_out_c : Nat) (p4_p : Int) (w : World) (B40_1 : Env → World → Prop) (R : Ending → World → Prop) : den Tryd.prog M40 c40_1 (e40_1 p0_q p3_out_a p3_out_n p3_out_c p4_p) w (loopK B40_1 (k40_1 R)) =
((decide (p4_p ≥ (0 : Int)) = true →
    Cut
      (WP Tryd.prog 41 (Code.loop c40_3) (e40_3 p0_q p3_out_a p3_out_n p3_out_c p4_p (0 : Int)) w
        (k40_3 B40_1 R))) ∧
  (decide (p4_p ≥ (0 : Int)) = false → R (Ending.returned (Value.slice p3_out_a p3_out_n p3_out_c)) w)) := by kernel_rfl
theorem t40_3 (p0_q : Option Addr) (p3_out_a : Option Addr) (p3_out_n : Nat) (p3_out_c : Nat) (p4_p : Int) (p5_i : Int) (w : World) (B40_1 : Env → World → Prop) (B40_3 : Env → World → Prop) (R : Ending → World → Prop) : den Tryd.prog M40 c40_3 (e40_3 p0_q p3_out_a p3_out_n p3_out_c p4_p p5_i) w (loopK B40_3 (k40_3 B40_1 R)) =
(∃ a,
  p0_q = some a ∧
    ∃ p n c,
      World.cell? w (Addr.add a 1) = some (Value.slice p n c) ∧
        (decide (p5_i < (↑n : Int)) = true →
            ∃ a,
              p0_q = some a ∧
                ∃ p n c,
                  World.cell? w (Addr.add a 1) = some (Value.slice p n c) ∧
                    ((0 : Int) ≤ p5_i ∧ p5_i < (↑n : Int)) ∧
                      ∃ a,
                        p = some a ∧
                          ∃ n,
                            World.cell? w (Addr.add (Addr.add a (Int.toNat p5_i * 2)) 0) =
                                some (Value.int IntKind.i64 n) ∧
                              ((n == p4_p) = true →
                                  ∃ a,
                                    p0_q = some a ∧
                                      ∃ p n c,
                                        World.cell? w (Addr.add a 1) = some (Value.slice p n c) ∧
                                          ((0 : Int) ≤ p5_i ∧ p5_i < (↑n : Int)) ∧
                                            ∃ a,
                                              p = some a ∧
                                                ∃ n,
                                                  World.cell? w
                                                        (Addr.add (Addr.add a (Int.toNat p5_i * 2))
                                                          1) =
                                                      some (Value.int IntKind.i64 n) ∧
                                                    New w [Value.int IntKind.i64 n] 3 fun p w' =>
                                                      ∃ p_1 n c w'_1,
                                                        Sem.run Tryd.prog
                                                              (Builtin.append_ #[39, 39] 39
                                                                #[Value.slice p3_out_a p3_out_n p3_out_c,
                                                                  Value.slice (some p) 1 1])
                                                              w' =
                                                            Result.ok (Value.slice p_1 n c) w'_1 ∧
                                                          B40_3
                                                            [(0, SV.v (Value.pointer p0_q)),
                                                              (3, SV.v (Value.slice p_1 n c)),
                                                              (4, SV.v (Value.int IntKind.i64 p4_p)),
                                                              (5,
                                                                SV.v
                                                                  (Value.int IntKind.i64
                                                                    (IntKind.wrap IntKind.i64 (p5_i + (1 : Int)))))]
                                                            w'_1) ∧
                                ((n == p4_p) = false →
                                  B40_3
                                    [(0, SV.v (Value.pointer p0_q)),
                                      (3, SV.v (Value.slice p3_out_a p3_out_n p3_out_c)),
                                      (4, SV.v (Value.int IntKind.i64 p4_p)),
                                      (5,
                                        SV.v (Value.int IntKind.i64 (IntKind.wrap IntKind.i64 (p5_i + (1 : Int)))))]
                                    w)) ∧
          (decide (p5_i < (↑n : Int)) = false →
            B40_1
              [(0, SV.v (Value.pointer p0_q)), (3, SV.v (Value.slice p3_out_a p3_out_n p3_out_c)),
                (4, SV.v (Value.int IntKind.i64 (IntKind.wrap IntKind.i64 (p4_p - (1 : Int)))))]
              w)) := by kernel_rfl
/-! (*davit/runq.Runq).best -/
def M41 : Mt := { N := 46, keep := [(0, [0, 1, 2]), (1, [0, 1, 2, 13]), (2, [6, 7]), (3, [0, 2, 8]), (4, [0, 2, 8, 25]), (5, [6, 7]), (6, [0, 2, 8, 9]), (7, [0, 2, 9, 29, 30, 31]), (8, [0, 2, 9, 29, 30, 31, 32]), (9, [0, 2, 9, 11, 29, 30, 31]), (10, [0, 2, 9, 11, 29, 30, 31, 42]), (11, [0, 2, 9, 29, 30, 31]), (12, [0, 2, 9, 29, 30, 31]), (13, [6, 7])], ords := [], bk := [(0, [9]), (1, [0, 2, 9, 29, 30, 31])], cuts := [], lk := [(8, [0, 2, 9, 29, 30, 31])] }
noncomputable def c41 : Code := bodyOf Tryd.f41
noncomputable def c41_0 : Code := c41.sr.sr.sr.sr.sr.sr
noncomputable def c41_1 : Code := c41.sr.sr.sr.sr.sr.sl.sr.sl.sl
def e41_1 (p0_r : Option Addr) (p9_at : Int) (p29_t_a : Option Addr) (p29_t_n : Nat) (p29_t_c : Nat) (p30_t : Int) (p31_t : Int) : Env := [(0, SV.v (Value.pointer p0_r)), (2, SV.v (Value.func (Fn.func 42) #[] #[])), (9, SV.v (Value.int IntKind.i64 p9_at)), (29, SV.v (Value.slice p29_t_a p29_t_n p29_t_c)), (30, SV.v (Value.int IntKind.i64 p30_t)), (31, SV.v (Value.int IntKind.i64 p31_t))]
def k41_1 (R : Ending → World → Prop) : Cont := blockK 0 [9] (seqK (fun E w => cutB (findL M41.cuts (headReg c41_0)) Tryd.prog M41 c41_0 E w (retK Tryd.prog Tryd.f41.results.toList R) fun E => den Tryd.prog M41 c41_0 E w (retK Tryd.prog Tryd.f41.results.toList R)) (retK Tryd.prog Tryd.f41.results.toList R))
theorem b41 : Tryd.f41.body = some c41 := by kernel_rfl
theorem n41 : Tryd.f41.ntmps = M41.N := by kernel_rfl
set_option maxRecDepth 100000 in
theorem u41 {p0_r : Option Addr} {p1_of : Int} {w : World} {R : Ending → World → Prop} (h : den Tryd.prog M41 c41 (argE 0 [(Value.pointer p0_r), (Value.int IntKind.u64 p1_of), (Value.func (Fn.func 42) #[] #[])]) w (retK Tryd.prog Tryd.f41.results.toList R)) : Calls Tryd.prog 41 #[(Value.pointer p0_r), (Value.int IntKind.u64 p1_of), (Value.func (Fn.func 42) #[] #[])] w R := calls_den okProg Tryd.func41 b41 n41 (Nat.le_of_ble_eq_true rfl) h
theorem t41 (p0_r : Option Addr) (p1_of : Int) (w : World) (R : Ending → World → Prop) : den Tryd.prog M41 c41 (argE 0 [(Value.pointer p0_r), (Value.int IntKind.u64 p1_of), (Value.func (Fn.func 42) #[] #[])]) w (retK Tryd.prog Tryd.f41.results.toList R) =
((Option.isNone p0_r = true →
    R (Ending.returned (Value.tuple #[Value.int IntKind.i64 0, Value.int IntKind.i64 1])) w) ∧
  (Option.isNone p0_r = false →
    ∃ a,
      p0_r = some a ∧
        ∃ p n c,
          World.cell? w (Addr.add a 0) = some (Value.slice p n c) ∧
            Call Tryd.prog 61 [Value.int IntKind.i64 (↑n : Int)] w fun e w' =>
              ∃ n,
                e = Ending.returned (Value.int IntKind.u64 n) ∧
                  Call Tryd.prog 60 [Value.int IntKind.u64 p1_of, Value.int IntKind.u64 n] w' fun e w' =>
                    ∃ n,
                      e = Ending.returned (Value.int IntKind.u64 n) ∧
                        Call Tryd.prog 62 [Value.int IntKind.u64 n] w' fun e w' =>
                          ∃ p n c,
                            e = Ending.returned (Value.slice p n c) ∧
                              (((↑n : Int) == (0 : Int)) = true →
                                  R
                                    (Ending.returned
                                      (Value.tuple
                                        #[Value.int IntKind.i64 0, Value.int IntKind.i64 12]))
                                    w') ∧
                                (((↑n : Int) == (0 : Int)) = false →
                                  ((0 : Int) ≤ (0 : Int) ∧ (0 : Int) < (↑n : Int)) ∧
                                    ∃ a,
                                      p = some a ∧
                                        ∃ n_1,
                                          World.cell? w' (Addr.add a 0) = some (Value.int IntKind.i64 n_1) ∧
                                            Cut
                                              (WP Tryd.prog 46 (Code.loop c41_1)
                                                [(0, SV.v (Value.pointer p0_r)),
                                                  (2, SV.v (Value.func (Fn.func 42) #[] #[])),
                                                  (9, SV.v (Value.int IntKind.i64 n_1)),
                                                  (29, SV.v (Value.slice p n c)),
                                                  (30, SV.v (Value.int IntKind.i64 (↑n : Int))),
                                                  (31, SV.v (Value.int IntKind.i64 0))]
                                                w' (k41_1 R))))) := by kernel_rfl
theorem t41_1 (p0_r : Option Addr) (p9_at : Int) (p29_t_a : Option Addr) (p29_t_n : Nat) (p29_t_c : Nat) (p30_t : Int) (p31_t : Int) (w : World) (B41_1 : Env → World → Prop) (R : Ending → World → Prop) : den Tryd.prog M41 c41_1 (e41_1 p0_r p9_at p29_t_a p29_t_n p29_t_c p30_t p31_t) w (loopK B41_1 (k41_1 R)) =
((decide (p31_t < p30_t) = true →
    ((0 : Int) ≤ p31_t ∧ p31_t < (↑p29_t_n : Int)) ∧
      ∃ a,
        p29_t_a = some a ∧
          ∃ n,
            World.cell? w (Addr.add a (Int.toNat p31_t * 1)) = some (Value.int IntKind.i64 n) ∧
              Call Tryd.prog 13 [Value.pointer p0_r, Value.int IntKind.i64 n] w fun e w' =>
                ∃ n_1,
                  e = Ending.returned (Value.int IntKind.i64 n_1) ∧
                    Call Tryd.prog 13 [Value.pointer p0_r, Value.int IntKind.i64 p9_at] w' fun e w' =>
                      ∃ n_2,
                        e = Ending.returned (Value.int IntKind.i64 n_2) ∧
                          Call Tryd.prog 42 [Value.int IntKind.i64 n_1, Value.int IntKind.i64 n_2] w'
                            fun e w' =>
                            ∃ b,
                              e = Ending.returned (Value.bool b) ∧
                                (b = true →
                                    B41_1
                                      [(0, SV.v (Value.pointer p0_r)),
                                        (2, SV.v (Value.func (Fn.func 42) #[] #[])),
                                        (9, SV.v (Value.int IntKind.i64 n)),
                                        (29, SV.v (Value.slice p29_t_a p29_t_n p29_t_c)),
                                        (30, SV.v (Value.int IntKind.i64 p30_t)),
                                        (31,
                                          SV.v (Value.int IntKind.i64 (IntKind.wrap IntKind.i64 (p31_t + (1 : Int)))))]
                                      w') ∧
                                  (b = false →
                                    B41_1
                                      [(0, SV.v (Value.pointer p0_r)),
                                        (2, SV.v (Value.func (Fn.func 42) #[] #[])),
                                        (9, SV.v (Value.int IntKind.i64 p9_at)),
                                        (29, SV.v (Value.slice p29_t_a p29_t_n p29_t_c)),
                                        (30, SV.v (Value.int IntKind.i64 p30_t)),
                                        (31,
                                          SV.v (Value.int IntKind.i64 (IntKind.wrap IntKind.i64 (p31_t + (1 : Int)))))]
                                      w')) ∧
  (decide (p31_t < p30_t) = false →
    R (Ending.returned (Value.tuple #[Value.int IntKind.i64 p9_at, Value.int IntKind.i64 0])) w)) := by kernel_rfl
/-! (*davit/runq.Runq).Busiest$1 -/
def M42 : Mt := { N := 8, keep := [(0, [0, 1]), (1, [4])], ords := [], bk := [], cuts := [], lk := [] }
noncomputable def c42 : Code := bodyOf Tryd.f42
theorem b42 : Tryd.f42.body = some c42 := by kernel_rfl
theorem n42 : Tryd.f42.ntmps = M42.N := by kernel_rfl
set_option maxRecDepth 100000 in
theorem u42 {p0_a : Int} {p1_b : Int} {w : World} {R : Ending → World → Prop} (h : den Tryd.prog M42 c42 (argE 0 [(Value.int IntKind.i64 p0_a), (Value.int IntKind.i64 p1_b)]) w (retK Tryd.prog Tryd.f42.results.toList R)) : Calls Tryd.prog 42 #[(Value.int IntKind.i64 p0_a), (Value.int IntKind.i64 p1_b)] w R := calls_den okProg Tryd.func42 b42 n42 (Nat.le_of_ble_eq_true rfl) h
theorem t42 (p0_a : Int) (p1_b : Int) (w : World) (R : Ending → World → Prop) : den Tryd.prog M42 c42 (argE 0 [(Value.int IntKind.i64 p0_a), (Value.int IntKind.i64 p1_b)]) w (retK Tryd.prog Tryd.f42.results.toList R) =
(R (Ending.returned (Value.bool (decide (p0_a > p1_b)))) w) := by kernel_rfl
/-! (*davit/davitref10.Runq).best -/
def M43 : Mt := { N := 55, keep := [(0, [0, 1, 2]), (1, [0, 1, 2, 8]), (2, [0, 1, 2, 8, 9]), (3, [0, 1, 2, 8, 9, 16]), (4, [0, 1, 2, 8, 9]), (5, [0, 1, 2, 8, 9, 50]), (6, [0, 1, 2, 8, 9]), (7, [8, 53]), (8, [6, 7]), (9, [6, 7])], ords := [], bk := [(0, [8]), (1, [0, 1, 2, 8, 9])], cuts := [], lk := [(3, [0, 1, 2, 8, 9])] }
noncomputable def c43 : Code := bodyOf Tryd.f43
noncomputable def c43_0 : Code := c43.sr.sr.sr
noncomputable def c43_1 : Code := c43.sr.sr.sl.sr.sl.sl
def e43_1 (p0_r : Option Addr) (p1_of : Int) (p2_most : Bool) (p8_at : Int) (p9_i : Int) : Env := [(0, SV.v (Value.pointer p0_r)), (1, SV.v (Value.int IntKind.u64 p1_of)), (2, SV.v (Value.bool p2_most)), (8, SV.v (Value.int IntKind.i64 p8_at)), (9, SV.v (Value.int IntKind.i64 p9_i))]
def k43_1 (R : Ending → World → Prop) : Cont := blockK 0 [8] (seqK (fun E w => cutB (findL M43.cuts (headReg c43_0)) Tryd.prog M43 c43_0 E w (retK Tryd.prog Tryd.f43.results.toList R) fun E => den Tryd.prog M43 c43_0 E w (retK Tryd.prog Tryd.f43.results.toList R)) (retK Tryd.prog Tryd.f43.results.toList R))
theorem b43 : Tryd.f43.body = some c43 := by kernel_rfl
theorem n43 : Tryd.f43.ntmps = M43.N := by kernel_rfl
set_option maxRecDepth 100000 in
theorem u43 {p0_r : Option Addr} {p1_of : Int} {p2_most : Bool} {w : World} {R : Ending → World → Prop} (h : den Tryd.prog M43 c43 (argE 0 [(Value.pointer p0_r), (Value.int IntKind.u64 p1_of), (Value.bool p2_most)]) w (retK Tryd.prog Tryd.f43.results.toList R)) : Calls Tryd.prog 43 #[(Value.pointer p0_r), (Value.int IntKind.u64 p1_of), (Value.bool p2_most)] w R := calls_den okProg Tryd.func43 b43 n43 (Nat.le_of_ble_eq_true rfl) h
theorem t43 (p0_r : Option Addr) (p1_of : Int) (p2_most : Bool) (w : World) (R : Ending → World → Prop) : den Tryd.prog M43 c43 (argE 0 [(Value.pointer p0_r), (Value.int IntKind.u64 p1_of), (Value.bool p2_most)]) w (retK Tryd.prog Tryd.f43.results.toList R) =
(Cut (WP Tryd.prog 55 (Code.loop c43_1) (e43_1 p0_r p1_of p2_most (-1 : Int) (0 : Int)) w (k43_1 R))) := by kernel_rfl
theorem t43_1 (p0_r : Option Addr) (p1_of : Int) (p2_most : Bool) (p8_at : Int) (p9_i : Int) (w : World) (B43_1 : Env → World → Prop) (R : Ending → World → Prop) : den Tryd.prog M43 c43_1 (e43_1 p0_r p1_of p2_most p8_at p9_i) w (loopK B43_1 (k43_1 R)) =
(∃ a,
  p0_r = some a ∧
    ∃ p n c,
      World.cell? w (Addr.add a 0) = some (Value.slice p n c) ∧
        (decide (p9_i < (↑n : Int)) = true →
            Call Tryd.prog 63 [Value.int IntKind.u64 p1_of, Value.int IntKind.i64 p9_i] w fun e w' =>
              ∃ b,
                e = Ending.returned (Value.bool b) ∧
                  (b = true →
                      (decide (p8_at < (0 : Int)) = false →
                          (p2_most = true →
                              Call Tryd.prog 14 [Value.pointer p0_r, Value.int IntKind.i64 p9_i] w'
                                fun e w' =>
                                ∃ n,
                                  e = Ending.returned (Value.int IntKind.i64 n) ∧
                                    Call Tryd.prog 14 [Value.pointer p0_r, Value.int IntKind.i64 p8_at] w'
                                      fun e w' =>
                                      ∃ n_1,
                                        e = Ending.returned (Value.int IntKind.i64 n_1) ∧
                                          (decide (n > n_1) = false →
                                              ((!p2_most) = true →
                                                  Call Tryd.prog 14
                                                    [Value.pointer p0_r, Value.int IntKind.i64 p9_i] w' fun e w' =>
                                                    ∃ n,
                                                      e = Ending.returned (Value.int IntKind.i64 n) ∧
                                                        Call Tryd.prog 14
                                                          [Value.pointer p0_r, Value.int IntKind.i64 p8_at] w'
                                                          fun e w' =>
                                                          ∃ n_2,
                                                            e = Ending.returned (Value.int IntKind.i64 n_2) ∧
                                                              (decide (n < n_2) = true →
                                                                  B43_1
                                                                    [(0, SV.v (Value.pointer p0_r)),
                                                                      (1, SV.v (Value.int IntKind.u64 p1_of)),
                                                                      (2, SV.v (Value.bool p2_most)),
                                                                      (8, SV.v (Value.int IntKind.i64 p9_i)),
                                                                      (9,
                                                                        SV.v
                                                                          (Value.int IntKind.i64
                                                                            (IntKind.wrap IntKind.i64
                                                                              (p9_i + (1 : Int)))))]
                                                                    w') ∧
                                                                (decide (n < n_2) = false →
                                                                  B43_1
                                                                    [(0, SV.v (Value.pointer p0_r)),
                                                                      (1, SV.v (Value.int IntKind.u64 p1_of)),
                                                                      (2, SV.v (Value.bool p2_most)),
                                                                      (8, SV.v (Value.int IntKind.i64 p8_at)),
                                                                      (9,
                                                                        SV.v
                                                                          (Value.int IntKind.i64
                                                                            (IntKind.wrap IntKind.i64
                                                                              (p9_i + (1 : Int)))))]
                                                                    w')) ∧
                                                ((!p2_most) = false →
                                                  B43_1
                                                    [(0, SV.v (Value.pointer p0_r)),
                                                      (1, SV.v (Value.int IntKind.u64 p1_of)),
                                                      (2, SV.v (Value.bool p2_most)),
                                                      (8, SV.v (Value.int IntKind.i64 p8_at)),
                                                      (9,
                                                        SV.v
                                                          (Value.int IntKind.i64
                                                            (IntKind.wrap IntKind.i64 (p9_i + (1 : Int)))))]
                                                    w')) ∧
                                            (decide (n > n_1) = true →
                                              B43_1
                                                [(0, SV.v (Value.pointer p0_r)),
                                                  (1, SV.v (Value.int IntKind.u64 p1_of)),
                                                  (2, SV.v (Value.bool p2_most)),
                                                  (8, SV.v (Value.int IntKind.i64 p9_i)),
                                                  (9,
                                                    SV.v
                                                      (Value.int IntKind.i64
                                                        (IntKind.wrap IntKind.i64 (p9_i + (1 : Int)))))]
                                                w')) ∧
                            (p2_most = false →
                              ((!p2_most) = true →
                                  Call Tryd.prog 14 [Value.pointer p0_r, Value.int IntKind.i64 p9_i] w'
                                    fun e w' =>
                                    ∃ n,
                                      e = Ending.returned (Value.int IntKind.i64 n) ∧
                                        Call Tryd.prog 14 [Value.pointer p0_r, Value.int IntKind.i64 p8_at] w'
                                          fun e w' =>
                                          ∃ n_1,
                                            e = Ending.returned (Value.int IntKind.i64 n_1) ∧
                                              (decide (n < n_1) = true →
                                                  B43_1
                                                    [(0, SV.v (Value.pointer p0_r)),
                                                      (1, SV.v (Value.int IntKind.u64 p1_of)),
                                                      (2, SV.v (Value.bool p2_most)),
                                                      (8, SV.v (Value.int IntKind.i64 p9_i)),
                                                      (9,
                                                        SV.v
                                                          (Value.int IntKind.i64
                                                            (IntKind.wrap IntKind.i64 (p9_i + (1 : Int)))))]
                                                    w') ∧
                                                (decide (n < n_1) = false →
                                                  B43_1
                                                    [(0, SV.v (Value.pointer p0_r)),
                                                      (1, SV.v (Value.int IntKind.u64 p1_of)),
                                                      (2, SV.v (Value.bool p2_most)),
                                                      (8, SV.v (Value.int IntKind.i64 p8_at)),
                                                      (9,
                                                        SV.v
                                                          (Value.int IntKind.i64
                                                            (IntKind.wrap IntKind.i64 (p9_i + (1 : Int)))))]
                                                    w')) ∧
                                ((!p2_most) = false →
                                  B43_1
                                    [(0, SV.v (Value.pointer p0_r)),
                                      (1, SV.v (Value.int IntKind.u64 p1_of)),
                                      (2, SV.v (Value.bool p2_most)),
                                      (8, SV.v (Value.int IntKind.i64 p8_at)),
                                      (9,
                                        SV.v (Value.int IntKind.i64 (IntKind.wrap IntKind.i64 (p9_i + (1 : Int)))))]
                                    w'))) ∧
                        (decide (p8_at < (0 : Int)) = true →
                          B43_1
                            [(0, SV.v (Value.pointer p0_r)), (1, SV.v (Value.int IntKind.u64 p1_of)),
                              (2, SV.v (Value.bool p2_most)), (8, SV.v (Value.int IntKind.i64 p9_i)),
                              (9, SV.v (Value.int IntKind.i64 (IntKind.wrap IntKind.i64 (p9_i + (1 : Int)))))]
                            w')) ∧
                    (b = false →
                      B43_1
                        [(0, SV.v (Value.pointer p0_r)), (1, SV.v (Value.int IntKind.u64 p1_of)),
                          (2, SV.v (Value.bool p2_most)), (8, SV.v (Value.int IntKind.i64 p8_at)),
                          (9, SV.v (Value.int IntKind.i64 (IntKind.wrap IntKind.i64 (p9_i + (1 : Int)))))]
                        w')) ∧
          (decide (p9_i < (↑n : Int)) = false →
            (decide (p8_at < (0 : Int)) = true →
                R (Ending.returned (Value.tuple #[Value.int IntKind.i64 0, Value.int IntKind.i64 12]))
                  w) ∧
              (decide (p8_at < (0 : Int)) = false →
                R (Ending.returned (Value.tuple #[Value.int IntKind.i64 p8_at, Value.int IntKind.i64 0])) w))) := by kernel_rfl
/-! (*davit/runq.Runq).Idlest$1 -/
def M44 : Mt := { N := 8, keep := [(0, [0, 1]), (1, [4])], ords := [], bk := [], cuts := [], lk := [] }
noncomputable def c44 : Code := bodyOf Tryd.f44
theorem b44 : Tryd.f44.body = some c44 := by kernel_rfl
theorem n44 : Tryd.f44.ntmps = M44.N := by kernel_rfl
set_option maxRecDepth 100000 in
theorem u44 {p0_a : Int} {p1_b : Int} {w : World} {R : Ending → World → Prop} (h : den Tryd.prog M44 c44 (argE 0 [(Value.int IntKind.i64 p0_a), (Value.int IntKind.i64 p1_b)]) w (retK Tryd.prog Tryd.f44.results.toList R)) : Calls Tryd.prog 44 #[(Value.int IntKind.i64 p0_a), (Value.int IntKind.i64 p1_b)] w R := calls_den okProg Tryd.func44 b44 n44 (Nat.le_of_ble_eq_true rfl) h
theorem t44 (p0_a : Int) (p1_b : Int) (w : World) (R : Ending → World → Prop) : den Tryd.prog M44 c44 (argE 0 [(Value.int IntKind.i64 p0_a), (Value.int IntKind.i64 p1_b)]) w (retK Tryd.prog Tryd.f44.results.toList R) =
(R (Ending.returned (Value.bool (decide (p0_a < p1_b)))) w) := by kernel_rfl
/-! (*davit/prio.Queue).Top -/
def M45 : Mt := { N := 18, keep := [(0, [0]), (1, [4, 5]), (2, [4, 5, 12]), (3, [2, 3]), (4, [2, 3])], ords := [], bk := [], cuts := [], lk := [] }
noncomputable def c45 : Code := bodyOf Tryd.f45
theorem b45 : Tryd.f45.body = some c45 := by kernel_rfl
theorem n45 : Tryd.f45.ntmps = M45.N := by kernel_rfl
set_option maxRecDepth 100000 in
theorem u45 {p0_q : Option Addr} {w : World} {R : Ending → World → Prop} (h : den Tryd.prog M45 c45 (argE 0 [(Value.pointer p0_q)]) w (retK Tryd.prog Tryd.f45.results.toList R)) : Calls Tryd.prog 45 #[(Value.pointer p0_q)] w R := calls_den okProg Tryd.func45 b45 n45 (Nat.le_of_ble_eq_true rfl) h
theorem t45 (p0_q : Option Addr) (w : World) (R : Ending → World → Prop) : den Tryd.prog M45 c45 (argE 0 [(Value.pointer p0_q)]) w (retK Tryd.prog Tryd.f45.results.toList R) =
(Call Tryd.prog 64 [Value.pointer p0_q] w fun e w' =>
  ∃ p n,
    e = Ending.returned (Value.tuple #[Value.pointer p, Value.int IntKind.i64 n]) ∧
      ((n != (0 : Int)) = true →
          R (Ending.returned (Value.tuple #[Value.int IntKind.i64 0, Value.int IntKind.i64 n])) w') ∧
        ((n != (0 : Int)) = false →
          Call Tryd.prog 65 [Value.pointer p] w' fun e w' =>
            ∃ n n_1,
              e = Ending.returned (Value.tuple #[Value.int IntKind.i64 n, Value.int IntKind.i64 n_1]) ∧
                R (Ending.returned (Value.tuple #[Value.int IntKind.i64 n, Value.int IntKind.i64 n_1])) w')) := by kernel_rfl
/-! (*davit/prio.Queue).Turn -/
def M46 : Mt := { N := 15, keep := [(0, [0]), (1, [3, 4]), (2, [3, 4, 11]), (3, [2]), (4, [2])], ords := [], bk := [], cuts := [], lk := [] }
noncomputable def c46 : Code := bodyOf Tryd.f46
theorem b46 : Tryd.f46.body = some c46 := by kernel_rfl
theorem n46 : Tryd.f46.ntmps = M46.N := by kernel_rfl
set_option maxRecDepth 100000 in
theorem u46 {p0_q : Option Addr} {w : World} {R : Ending → World → Prop} (h : den Tryd.prog M46 c46 (argE 0 [(Value.pointer p0_q)]) w (retK Tryd.prog Tryd.f46.results.toList R)) : Calls Tryd.prog 46 #[(Value.pointer p0_q)] w R := calls_den okProg Tryd.func46 b46 n46 (Nat.le_of_ble_eq_true rfl) h
theorem t46 (p0_q : Option Addr) (w : World) (R : Ending → World → Prop) : den Tryd.prog M46 c46 (argE 0 [(Value.pointer p0_q)]) w (retK Tryd.prog Tryd.f46.results.toList R) =
(Call Tryd.prog 64 [Value.pointer p0_q] w fun e w' =>
  ∃ p n,
    e = Ending.returned (Value.tuple #[Value.pointer p, Value.int IntKind.i64 n]) ∧
      ((n != (0 : Int)) = true → R (Ending.returned (Value.int IntKind.i64 n)) w') ∧
        ((n != (0 : Int)) = false →
          Call Tryd.prog 66 [Value.pointer p] w' fun e w' =>
            ∃ n, e = Ending.returned (Value.int IntKind.i64 n) ∧ R (Ending.returned (Value.int IntKind.i64 n)) w')) := by kernel_rfl
/-! (*davit/prio.Queue).Push -/
def M47 : Mt := { N := 54, keep := [(0, [0, 1, 2]), (1, [0, 1, 2, 10]), (2, [6]), (3, [0, 1, 2, 8]), (4, [0, 1, 2, 8, 20]), (5, [6]), (6, [0, 1, 2, 27]), (7, [6]), (8, [0, 1, 2, 29]), (9, [6]), (10, [0, 1, 2]), (11, [6])], ords := [(8, [0, 1, 2, 3, 4, 5, 6, 7, 8, 9, 10])], bk := [(0, [0, 1, 2])], cuts := [], lk := [] }
noncomputable def c47 : Code := bodyOf Tryd.f47
theorem b47 : Tryd.f47.body = some c47 := by kernel_rfl
theorem n47 : Tryd.f47.ntmps = M47.N := by kernel_rfl
set_option maxRecDepth 100000 in
theorem u47 {p0_q : Option Addr} {p1_prio : Int} {p2_id : Int} {w : World} {R : Ending → World → Prop} (h : den Tryd.prog M47 c47 (argE 0 [(Value.pointer p0_q), (Value.int IntKind.i64 p1_prio), (Value.int IntKind.i64 p2_id)]) w (retK Tryd.prog Tryd.f47.results.toList R)) : Calls Tryd.prog 47 #[(Value.pointer p0_q), (Value.int IntKind.i64 p1_prio), (Value.int IntKind.i64 p2_id)] w R := calls_den okProg Tryd.func47 b47 n47 (Nat.le_of_ble_eq_true rfl) h
theorem t47 (p0_q : Option Addr) (p1_prio : Int) (p2_id : Int) (w : World) (R : Ending → World → Prop) : den Tryd.prog M47 c47 (argE 0 [(Value.pointer p0_q), (Value.int IntKind.i64 p1_prio), (Value.int IntKind.i64 p2_id)]) w (retK Tryd.prog Tryd.f47.results.toList R) =
((Option.isNone p0_q = true → R (Ending.returned (Value.int IntKind.i64 1)) w) ∧
  (Option.isNone p0_q = false →
    ∃ a,
      p0_q = some a ∧
        ∃ r,
          World.cell? w (Addr.add a 8) = some (Value.map r) ∧
            ∃ n b,
              Sem.run Tryd.prog (Instr.lookup 51 (Value.map r) (Value.int IntKind.i64 p2_id) true) w =
                  Result.ok (Value.tuple #[Value.int IntKind.i64 n, Value.bool b]) w ∧
                (decide (p1_prio < (0 : Int)) = false →
                    (decide (p1_prio ≥ (8 : Int)) = true → R (Ending.returned (Value.int IntKind.i64 2)) w) ∧
                      (decide (p1_prio ≥ (8 : Int)) = false →
                        (b = true → R (Ending.returned (Value.int IntKind.i64 6)) w) ∧
                          (b = false →
                            ∀ (w' : World),
                              World.heap w' = World.heap w →
                                World.os w' = World.os w →
                                  World.tape w' = World.tape w →
                                    World.output w' = World.output w →
                                      ∃ a,
                                        p0_q = some a ∧
                                          ∃ r,
                                            World.cell? w' (Addr.add a 8) = some (Value.map r) ∧
                                              ∃ (n : Nat),
                                                (∀ (ty : TypeId),
                                                    Sem.run Tryd.prog (Builtin.len_ #[51] ty #[Value.map r])
                                                        w' =
                                                      Result.ok (Value.int IntKind.i64 (↑n : Int)) w') ∧
                                                  ∃ a,
                                                    p0_q = some a ∧
                                                      ∃ n_1,
                                                        World.cell? w' (Addr.add a 9) =
                                                            some (Value.int IntKind.i64 n_1) ∧
                                                          (decide ((↑n : Int) ≥ n_1) = true →
                                                              R (Ending.returned (Value.int IntKind.i64 5))
                                                                w') ∧
                                                            (decide ((↑n : Int) ≥ n_1) = false →
                                                              ∃ a,
                                                                p0_q = some a ∧
                                                                  ∃ r,
                                                                    World.cell? w' (Addr.add a 8) =
                                                                        some (Value.map r) ∧
                                                                      ∃ w'_1,
                                                                        Sem.run Tryd.prog
                                                                              (Instr.mapUpdate 51 (Value.map r)
                                                                                (Value.int IntKind.i64 p2_id)
                                                                                (Value.int IntKind.i64 p1_prio))
                                                                              w' =
                                                                            Result.ok () w'_1 ∧
                                                                          ∃ a,
                                                                            p0_q = some a ∧
                                                                              ((0 : Int) ≤ p1_prio ∧
                                                                                  p1_prio < (↑8 : Int)) ∧
                                                                                ∃ p,
                                                                                  World.cell? w'_1
                                                                                        (Addr.add (Addr.add a 0)
                                                                                          (Int.toNat p1_prio *
                                                                                            1)) =
                                                                                      some (Value.pointer p) ∧
                                                                                    Call Tryd.prog 67
                                                                                      [Value.pointer p,
                                                                                        Value.int IntKind.i64 p2_id]
                                                                                      w'_1 fun e w' =>
                                                                                      ∃ n,
                                                                                        e =
                                                                                            Ending.returned
                                                                                              (Value.int IntKind.i64
                                                                                                n) ∧
                                                                                          R
                                                                                            (Ending.returned
                                                                                              (Value.int IntKind.i64 n))
                                                                                            w')))) ∧
                  (decide (p1_prio < (0 : Int)) = true → R (Ending.returned (Value.int IntKind.i64 2)) w))) := by kernel_rfl
/-! (*davit/prio.Queue).Drop -/
def M48 : Mt := { N := 33, keep := [(0, [0, 1]), (1, [0, 1, 8]), (2, [4]), (3, [0, 1, 5, 6]), (4, [0, 1, 5, 19]), (5, [4]), (6, [0, 1, 5]), (7, [4])], ords := [], bk := [], cuts := [], lk := [] }
noncomputable def c48 : Code := bodyOf Tryd.f48
theorem b48 : Tryd.f48.body = some c48 := by kernel_rfl
theorem n48 : Tryd.f48.ntmps = M48.N := by kernel_rfl
set_option maxRecDepth 100000 in
theorem u48 {p0_q : Option Addr} {p1_id : Int} {w : World} {R : Ending → World → Prop} (h : den Tryd.prog M48 c48 (argE 0 [(Value.pointer p0_q), (Value.int IntKind.i64 p1_id)]) w (retK Tryd.prog Tryd.f48.results.toList R)) : Calls Tryd.prog 48 #[(Value.pointer p0_q), (Value.int IntKind.i64 p1_id)] w R := calls_den okProg Tryd.func48 b48 n48 (Nat.le_of_ble_eq_true rfl) h
theorem t48 (p0_q : Option Addr) (p1_id : Int) (w : World) (R : Ending → World → Prop) : den Tryd.prog M48 c48 (argE 0 [(Value.pointer p0_q), (Value.int IntKind.i64 p1_id)]) w (retK Tryd.prog Tryd.f48.results.toList R) =
((Option.isNone p0_q = true → R (Ending.returned (Value.int IntKind.i64 1)) w) ∧
  (Option.isNone p0_q = false →
    ∃ a,
      p0_q = some a ∧
        ∃ r,
          World.cell? w (Addr.add a 8) = some (Value.map r) ∧
            ∃ n b,
              Sem.run Tryd.prog (Instr.lookup 51 (Value.map r) (Value.int IntKind.i64 p1_id) true) w =
                  Result.ok (Value.tuple #[Value.int IntKind.i64 n, Value.bool b]) w ∧
                ((!b) = true → R (Ending.returned (Value.int IntKind.i64 4)) w) ∧
                  ((!b) = false →
                    ∃ a,
                      p0_q = some a ∧
                        ∃ r,
                          World.cell? w (Addr.add a 8) = some (Value.map r) ∧
                            ∃ w',
                              Sem.run Tryd.prog
                                    (Builtin.delete_ #[51, 3] 0
                                      #[Value.map r, Value.int IntKind.i64 p1_id])
                                    w =
                                  Result.ok (Value.tuple #[]) w' ∧
                                ∃ a,
                                  p0_q = some a ∧
                                    ((0 : Int) ≤ n ∧ n < (↑8 : Int)) ∧
                                      ∃ p,
                                        World.cell? w' (Addr.add (Addr.add a 0) (Int.toNat n * 1)) =
                                            some (Value.pointer p) ∧
                                          Call Tryd.prog 68 [Value.pointer p, Value.int IntKind.i64 p1_id] w'
                                            fun e w' =>
                                            ∃ n,
                                              e = Ending.returned (Value.int IntKind.i64 n) ∧
                                                R (Ending.returned (Value.int IntKind.i64 n)) w'))) := by kernel_rfl
/-! (*davit/runq.Runq).of -/
def M49 : Mt := { N := 28, keep := [(0, [0, 1]), (1, [0, 1, 9]), (2, [4, 5]), (3, [0, 6, 7]), (4, [0, 6, 20]), (5, [4, 5]), (6, [4, 5])], ords := [], bk := [], cuts := [], lk := [] }
noncomputable def c49 : Code := bodyOf Tryd.f49
theorem b49 : Tryd.f49.body = some c49 := by kernel_rfl
theorem n49 : Tryd.f49.ntmps = M49.N := by kernel_rfl
set_option maxRecDepth 100000 in
theorem u49 {p0_r : Option Addr} {p1_id : Int} {w : World} {R : Ending → World → Prop} (h : den Tryd.prog M49 c49 (argE 0 [(Value.pointer p0_r), (Value.int IntKind.i64 p1_id)]) w (retK Tryd.prog Tryd.f49.results.toList R)) : Calls Tryd.prog 49 #[(Value.pointer p0_r), (Value.int IntKind.i64 p1_id)] w R := calls_den okProg Tryd.func49 b49 n49 (Nat.le_of_ble_eq_true rfl) h
theorem t49 (p0_r : Option Addr) (p1_id : Int) (w : World) (R : Ending → World → Prop) : den Tryd.prog M49 c49 (argE 0 [(Value.pointer p0_r), (Value.int IntKind.i64 p1_id)]) w (retK Tryd.prog Tryd.f49.results.toList R) =
((Option.isNone p0_r = true →
    R (Ending.returned (Value.tuple #[Value.pointer none, Value.int IntKind.i64 1])) w) ∧
  (Option.isNone p0_r = false →
    ∃ a,
      p0_r = some a ∧
        ∃ r,
          World.cell? w (Addr.add a 1) = some (Value.map r) ∧
            ∃ n b,
              Sem.run Tryd.prog (Instr.lookup 51 (Value.map r) (Value.int IntKind.i64 p1_id) true) w =
                  Result.ok (Value.tuple #[Value.int IntKind.i64 n, Value.bool b]) w ∧
                ((!b) = true →
                    R (Ending.returned (Value.tuple #[Value.pointer none, Value.int IntKind.i64 4])) w) ∧
                  ((!b) = false →
                    ∃ a,
                      p0_r = some a ∧
                        ∃ p n_1 c,
                          World.cell? w (Addr.add a 0) = some (Value.slice p n_1 c) ∧
                            ((0 : Int) ≤ n ∧ n < (↑n_1 : Int)) ∧
                              ∃ a,
                                p = some a ∧
                                  ∃ p,
                                    World.cell? w (Addr.add a (Int.toNat n * 1)) = some (Value.pointer p) ∧
                                      R
                                        (Ending.returned
                                          (Value.tuple #[Value.pointer p, Value.int IntKind.i64 0]))
                                        w))) := by kernel_rfl
/-! (*davit/prio.Queue).Back -/
def M50 : Mt := { N := 24, keep := [(0, [0, 1]), (1, [0, 1, 5]), (2, [0, 1, 5, 7]), (3, [0, 1, 5, 7, 18]), (4, [4]), (5, [4])], ords := [], bk := [], cuts := [], lk := [] }
noncomputable def c50 : Code := bodyOf Tryd.f50
theorem b50 : Tryd.f50.body = some c50 := by kernel_rfl
theorem n50 : Tryd.f50.ntmps = M50.N := by kernel_rfl
set_option maxRecDepth 100000 in
theorem u50 {p0_q : Option Addr} {p1_id : Int} {w : World} {R : Ending → World → Prop} (h : den Tryd.prog M50 c50 (argE 0 [(Value.pointer p0_q), (Value.int IntKind.i64 p1_id)]) w (retK Tryd.prog Tryd.f50.results.toList R)) : Calls Tryd.prog 50 #[(Value.pointer p0_q), (Value.int IntKind.i64 p1_id)] w R := calls_den okProg Tryd.func50 b50 n50 (Nat.le_of_ble_eq_true rfl) h
theorem t50 (p0_q : Option Addr) (p1_id : Int) (w : World) (R : Ending → World → Prop) : den Tryd.prog M50 c50 (argE 0 [(Value.pointer p0_q), (Value.int IntKind.i64 p1_id)]) w (retK Tryd.prog Tryd.f50.results.toList R) =
(Call Tryd.prog 35 [Value.pointer p0_q, Value.int IntKind.i64 p1_id] w fun e w' =>
  ∃ n b,
    e = Ending.returned (Value.tuple #[Value.int IntKind.i64 n, Value.bool b]) ∧
      Call Tryd.prog 48 [Value.pointer p0_q, Value.int IntKind.i64 p1_id] w' fun e w' =>
        ∃ n_1,
          e = Ending.returned (Value.int IntKind.i64 n_1) ∧
            ((n_1 != (0 : Int)) = true → R (Ending.returned (Value.int IntKind.i64 n_1)) w') ∧
              ((n_1 != (0 : Int)) = false →
                Call Tryd.prog 47 [Value.pointer p0_q, Value.int IntKind.i64 n, Value.int IntKind.i64 p1_id]
                  w' fun e w' =>
                  ∃ n,
                    e = Ending.returned (Value.int IntKind.i64 n) ∧ R (Ending.returned (Value.int IntKind.i64 n)) w')) := by kernel_rfl
/-! davit/fifo.New -/
def M51 : Mt := { N := 14, keep := [(0, [0]), (1, [0, 9]), (2, [2, 3]), (3, [2, 3])], ords := [], bk := [], cuts := [], lk := [] }
noncomputable def c51 : Code := bodyOf Tryd.f51
theorem b51 : Tryd.f51.body = some c51 := by kernel_rfl
theorem n51 : Tryd.f51.ntmps = M51.N := by kernel_rfl
set_option maxRecDepth 100000 in
theorem u51 {p0_most : Int} {w : World} {R : Ending → World → Prop} (h : den Tryd.prog M51 c51 (argE 0 [(Value.int IntKind.i64 p0_most)]) w (retK Tryd.prog Tryd.f51.results.toList R)) : Calls Tryd.prog 51 #[(Value.int IntKind.i64 p0_most)] w R := calls_den okProg Tryd.func51 b51 n51 (Nat.le_of_ble_eq_true rfl) h
theorem t51 (p0_most : Int) (w : World) (R : Ending → World → Prop) : den Tryd.prog M51 c51 (argE 0 [(Value.int IntKind.i64 p0_most)]) w (retK Tryd.prog Tryd.f51.results.toList R) =
((decide (p0_most < (1 : Int)) = false →
    (decide (p0_most > (1024 : Int)) = true →
        R (Ending.returned (Value.tuple #[Value.pointer none, Value.int IntKind.i64 2])) w) ∧
      (decide (p0_most > (1024 : Int)) = false →
        ∃ p n c w',
          Sem.run Tryd.prog
                (Instr.makeSlice 39 (Value.int IntKind.i64 p0_most) (Value.int IntKind.i64 p0_most)) w =
              Result.ok (Value.slice p n c) w' ∧
            New w' [Value.slice p n c, Value.int IntKind.i64 0, Value.int IntKind.i64 0] 91
              fun p w' =>
              R (Ending.returned (Value.tuple #[Value.pointer (some p), Value.int IntKind.i64 0])) w')) ∧
  (decide (p0_most < (1 : Int)) = true →
    R (Ending.returned (Value.tuple #[Value.pointer none, Value.int IntKind.i64 2])) w)) := by kernel_rfl
/-! (*davit/davitref09.Queue).Push -/
def M52 : Mt := { N := 39, keep := [(0, [0, 1, 2]), (1, [0, 1, 2, 12]), (2, [6]), (3, [0, 1, 2, 16]), (4, [6]), (5, [0, 1, 2, 26]), (6, [6]), (7, []), (8, [6])], ords := [(5, [0, 1, 2, 3, 4, 5, 6, 7, 8, 9])], bk := [], cuts := [], lk := [] }
noncomputable def c52 : Code := bodyOf Tryd.f52
theorem b52 : Tryd.f52.body = some c52 := by kernel_rfl
theorem n52 : Tryd.f52.ntmps = M52.N := by kernel_rfl
set_option maxRecDepth 100000 in
theorem u52 {p0_q : Option Addr} {p1_prio : Int} {p2_id : Int} {w : World} {R : Ending → World → Prop} (h : den Tryd.prog M52 c52 (argE 0 [(Value.pointer p0_q), (Value.int IntKind.i64 p1_prio), (Value.int IntKind.i64 p2_id)]) w (retK Tryd.prog Tryd.f52.results.toList R)) : Calls Tryd.prog 52 #[(Value.pointer p0_q), (Value.int IntKind.i64 p1_prio), (Value.int IntKind.i64 p2_id)] w R := calls_den okProg Tryd.func52 b52 n52 (Nat.le_of_ble_eq_true rfl) h
theorem t52 (p0_q : Option Addr) (p1_prio : Int) (p2_id : Int) (w : World) (R : Ending → World → Prop) : den Tryd.prog M52 c52 (argE 0 [(Value.pointer p0_q), (Value.int IntKind.i64 p1_prio), (Value.int IntKind.i64 p2_id)]) w (retK Tryd.prog Tryd.f52.results.toList R) =
((decide (p1_prio < (0 : Int)) = false →
    (decide (p1_prio ≥ (8 : Int)) = true → R (Ending.returned (Value.int IntKind.i64 2)) w) ∧
      (decide (p1_prio ≥ (8 : Int)) = false →
        Call Tryd.prog 57 [Value.pointer p0_q, Value.int IntKind.i64 p2_id] w fun e w' =>
          ∃ n,
            e = Ending.returned (Value.int IntKind.i64 n) ∧
              (decide (n ≥ (0 : Int)) = true → R (Ending.returned (Value.int IntKind.i64 6)) w') ∧
                (decide (n ≥ (0 : Int)) = false →
                  ∀ (w'_1 : World),
                    World.heap w'_1 = World.heap w' →
                      World.os w'_1 = World.os w' →
                        World.tape w'_1 = World.tape w' →
                          World.output w'_1 = World.output w' →
                            ∃ a,
                              p0_q = some a ∧
                                ∃ p n c,
                                  World.cell? w'_1 (Addr.add a 1) = some (Value.slice p n c) ∧
                                    ∃ a,
                                      p0_q = some a ∧
                                        ∃ n_1,
                                          World.cell? w'_1 (Addr.add a 0) = some (Value.int IntKind.i64 n_1) ∧
                                            (decide ((↑n : Int) ≥ n_1) = true →
                                                R (Ending.returned (Value.int IntKind.i64 5)) w'_1) ∧
                                              (decide ((↑n : Int) ≥ n_1) = false →
                                                ∃ a,
                                                  p0_q = some a ∧
                                                    ∃ p n c,
                                                      World.cell? w'_1 (Addr.add a 1) =
                                                          some (Value.slice p n c) ∧
                                                        New w'_1
                                                          [Value.int IntKind.i64 p1_prio, Value.int IntKind.i64 p2_id]
                                                          82 fun p_1 w' =>
                                                          ∃ p_2 n_2 c_1 w'_2,
                                                            Sem.run Tryd.prog
                                                                  (Builtin.append_ #[78, 78] 78
                                                                    #[Value.slice p n c,
                                                                      Value.slice (some p_1) 1 1])
                                                                  w' =
                                                                Result.ok (Value.slice p_2 n_2 c_1) w'_2 ∧
                                                              ∃ a,
                                                                p0_q = some a ∧
                                                                  Wr w'_2 (Addr.add a 1)
                                                                    [Value.slice p_2 n_2 c_1] fun w' =>
                                                                    R
                                                                      (Ending.returned
                                                                        (Value.int IntKind.i64 0))
                                                                      w')))) ∧
  (decide (p1_prio < (0 : Int)) = true → R (Ending.returned (Value.int IntKind.i64 2)) w)) := by kernel_rfl
/-! (*davit/davitref09.Queue).Top -/
def M53 : Mt := { N := 13, keep := [(0, [0]), (1, [4]), (2, [4, 9]), (3, [2, 3]), (4, [2, 3])], ords := [], bk := [], cuts := [], lk := [] }
noncomputable def c53 : Code := bodyOf Tryd.f53
theorem b53 : Tryd.f53.body = some c53 := by kernel_rfl
theorem n53 : Tryd.f53.ntmps = M53.N := by kernel_rfl
set_option maxRecDepth 100000 in
theorem u53 {p0_q : Option Addr} {w : World} {R : Ending → World → Prop} (h : den Tryd.prog M53 c53 (argE 0 [(Value.pointer p0_q)]) w (retK Tryd.prog Tryd.f53.results.toList R)) : Calls Tryd.prog 53 #[(Value.pointer p0_q)] w R := calls_den okProg Tryd.func53 b53 n53 (Nat.le_of_ble_eq_true rfl) h
theorem t53 (p0_q : Option Addr) (w : World) (R : Ending → World → Prop) : den Tryd.prog M53 c53 (argE 0 [(Value.pointer p0_q)]) w (retK Tryd.prog Tryd.f53.results.toList R) =
(Call Tryd.prog 40 [Value.pointer p0_q] w fun e w' =>
  ∃ p n c,
    e = Ending.returned (Value.slice p n c) ∧
      (((↑n : Int) == (0 : Int)) = true →
          R (Ending.returned (Value.tuple #[Value.int IntKind.i64 0, Value.int IntKind.i64 12])) w') ∧
        (((↑n : Int) == (0 : Int)) = false →
          ((0 : Int) ≤ (0 : Int) ∧ (0 : Int) < (↑n : Int)) ∧
            ∃ a,
              p = some a ∧
                ∃ n,
                  World.cell? w' (Addr.add a 0) = some (Value.int IntKind.i64 n) ∧
                    R (Ending.returned (Value.tuple #[Value.int IntKind.i64 n, Value.int IntKind.i64 0])) w')) := by kernel_rfl
/-! (*davit/davitref09.Queue).Turn -/
def M54 : Mt := { N := 16, keep := [(0, [0]), (1, [0, 3, 4]), (2, [0, 3, 4, 11]), (3, [2]), (4, [2])], ords := [], bk := [], cuts := [], lk := [] }
noncomputable def c54 : Code := bodyOf Tryd.f54
theorem b54 : Tryd.f54.body = some c54 := by kernel_rfl
theorem n54 : Tryd.f54.ntmps = M54.N := by kernel_rfl
set_option maxRecDepth 100000 in
theorem u54 {p0_q : Option Addr} {w : World} {R : Ending → World → Prop} (h : den Tryd.prog M54 c54 (argE 0 [(Value.pointer p0_q)]) w (retK Tryd.prog Tryd.f54.results.toList R)) : Calls Tryd.prog 54 #[(Value.pointer p0_q)] w R := calls_den okProg Tryd.func54 b54 n54 (Nat.le_of_ble_eq_true rfl) h
theorem t54 (p0_q : Option Addr) (w : World) (R : Ending → World → Prop) : den Tryd.prog M54 c54 (argE 0 [(Value.pointer p0_q)]) w (retK Tryd.prog Tryd.f54.results.toList R) =
(Call Tryd.prog 53 [Value.pointer p0_q] w fun e w' =>
  ∃ n n_1,
    e = Ending.returned (Value.tuple #[Value.int IntKind.i64 n, Value.int IntKind.i64 n_1]) ∧
      ((n_1 != (0 : Int)) = true → R (Ending.returned (Value.int IntKind.i64 n_1)) w') ∧
        ((n_1 != (0 : Int)) = false →
          Call Tryd.prog 55 [Value.pointer p0_q, Value.int IntKind.i64 n] w' fun e w' =>
            ∃ n, e = Ending.returned (Value.int IntKind.i64 n) ∧ R (Ending.returned (Value.int IntKind.i64 n)) w')) := by kernel_rfl
end Go.Dav
