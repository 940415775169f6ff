/- What functions of the program come to. -/
import Derived.Test.YtmlaiacompgcnaaDoorPrg17
namespace Go.Dav
open Go.Proofs
/-! davit/davitlaw17.WorkPlays -/
def M3 : Mt := { N := 120, keep := [(0, [0, 1]), (1, [0, 1, 5, 6]), (2, [1, 5, 6, 7, 8]), (3, [1, 5, 7, 34]), (4, [4]), (5, [1, 5, 7, 36]), (6, [4]), (7, [1, 5, 7, 9]), (8, [1, 5, 7, 9, 45]), (9, [1, 5, 7, 9]), (10, [1, 5, 7, 9, 10]), (11, [1, 5, 7, 9, 10, 56]), (12, [4]), (13, [1, 5, 7, 9, 10, 11, 12]), (14, [1, 5, 7, 9, 10, 11, 12, 13, 14]), (15, [1, 5, 7, 9, 118]), (16, [4]), (17, [4])], ords := [(15, [0, 1, 2, 3, 4, 5, 6, 7, 8, 9, 10, 11, 13, 12, 14, 15, 16, 17, 18, 19, 21, 22, 23, 20, 24, 25, 26, 27, 28, 29, 31, 30, 32, 33, 34, 35, 36, 37, 38, 39, 41, 42, 43, 40, 44, 45, 46, 47])], bk := [(0, []), (1, [1, 5, 7, 9])], cuts := [(17, [])], lk := [(8, [1, 5, 7, 9])] }
noncomputable def c3 : Code := bodyOf Tryd.f3
noncomputable def c3_0 : Code := c3.sr.sr.sr.sr.sr.sr
noncomputable def c3_1 : Code := c3.sr.sr.sr.sr.sr.sl.sr.sl.sl
def e3_0  : Env := []
def e3_1 (p1_acts_a : Option Addr) (p1_acts_n : Nat) (p1_acts_c : Nat) (p5_l : Option Addr) (p7_r : Option Addr) (p9_i : Int) : Env := [(1, SV.v (Value.slice p1_acts_a p1_acts_n p1_acts_c)), (5, SV.v (Value.pointer p5_l)), (7, SV.v (Value.pointer p7_r)), (9, SV.v (Value.int IntKind.i64 p9_i))]
def k3_0 (R : Ending → World → Prop) : Cont := retK Tryd.prog Tryd.f3.results.toList R
def k3_1 (R : Ending → World → Prop) : Cont := blockK 0 [] (seqK (fun E w => cutB (findL M3.cuts (headReg c3_0)) Tryd.prog M3 c3_0 E w (retK Tryd.prog Tryd.f3.results.toList R) fun E => den Tryd.prog M3 c3_0 E w (retK Tryd.prog Tryd.f3.results.toList R)) (retK Tryd.prog Tryd.f3.results.toList R))
theorem b3 : Tryd.f3.body = some c3 := by kernel_rfl
theorem n3 : Tryd.f3.ntmps = M3.N := by kernel_rfl
theorem u3 {p0_cpus : Int} {p1_acts_a : Option Addr} {p1_acts_n : Nat} {p1_acts_c : Nat} {w : World} {R : Ending → World → Prop} (h : den Tryd.prog M3 c3 (argE 0 [(Value.int IntKind.i64 p0_cpus), (Value.slice p1_acts_a p1_acts_n p1_acts_c)]) w (retK Tryd.prog Tryd.f3.results.toList R)) : Calls Tryd.prog 3 #[(Value.int IntKind.i64 p0_cpus), (Value.slice p1_acts_a p1_acts_n p1_acts_c)] w R := calls_den okProg Tryd.func3 b3 n3 (Nat.le_of_ble_eq_true rfl) h
theorem t3 (p0_cpus : Int) (p1_acts_a : Option Addr) (p1_acts_n : Nat) (p1_acts_c : Nat) (w : World) (R : Ending → World → Prop) : den Tryd.prog M3 c3 (argE 0 [(Value.int IntKind.i64 p0_cpus), (Value.slice p1_acts_a p1_acts_n p1_acts_c)]) w (retK Tryd.prog Tryd.f3.results.toList R) =
(Call Tryd.prog 6 [Value.int IntKind.i64 p0_cpus] w fun e w' =>
  ∃ p n,
    e = Ending.returned (Value.tuple #[Value.pointer p, Value.int IntKind.i64 n]) ∧
      Call Tryd.prog 7 [Value.int IntKind.i64 p0_cpus] w' fun e w' =>
        ∃ p_1 n_1,
          e = Ending.returned (Value.tuple #[Value.pointer p_1, Value.int IntKind.i64 n_1]) ∧
            ((n != n_1) = false →
                ((!Option.isNone p == Option.isNone p_1) = true → R (Ending.returned (Value.bool false)) w') ∧
                  ((!Option.isNone p == Option.isNone p_1) = false →
                    (Option.isNone p_1 = true →
                        Call Tryd.prog 8 [] w' fun e w' =>
                          ∃ b, e = Ending.returned (Value.bool b) ∧ R (Ending.returned (Value.bool b)) w') ∧
                      (Option.isNone p_1 = false →
                        Cut
                          (WP Tryd.prog 120 (Code.loop c3_1)
                            (e3_1 p1_acts_a p1_acts_n p1_acts_c p p_1 (0 : Int)) w' (k3_1 R))))) ∧
              ((n != n_1) = true → R (Ending.returned (Value.bool false)) w')) := by kernel_rfl
theorem t3_0  (w : World) (R : Ending → World → Prop) : den Tryd.prog M3 c3_0 (e3_0 ) w (k3_0 R) =
(Call Tryd.prog 8 [] w fun e w' =>
  ∃ b, e = Ending.returned (Value.bool b) ∧ R (Ending.returned (Value.bool b)) w') := by kernel_rfl
theorem t3_1 (p1_acts_a : Option Addr) (p1_acts_n : Nat) (p1_acts_c : Nat) (p5_l : Option Addr) (p7_r : Option Addr) (p9_i : Int) (w : World) (B3_1 : Env → World → Prop) (R : Ending → World → Prop) : den Tryd.prog M3 c3_1 (e3_1 p1_acts_a p1_acts_n p1_acts_c p5_l p7_r p9_i) w (loopK B3_1 (k3_1 R)) =
((decide (p9_i < (↑p1_acts_n : Int)) = true →
    (decide (p9_i < (120 : Int)) = true →
        ((0 : Int) ≤ p9_i ∧ p9_i < (↑p1_acts_n : Int)) ∧
          ∃ a,
            p1_acts_a = some a ∧
              ∃ n,
                World.cell? w (Addr.add (Addr.add a (Int.toNat p9_i * 3)) 0) =
                    some (Value.int IntKind.i64 n) ∧
                  ∃ n_1,
                    World.cell? w (Addr.add (Addr.add a (Int.toNat p9_i * 3)) 1) =
                        some (Value.int IntKind.i64 n_1) ∧
                      ∃ n_2,
                        World.cell? w (Addr.add (Addr.add a (Int.toNat p9_i * 3)) 2) =
                            some (Value.int IntKind.i64 n_2) ∧
                          New w
                            [Value.int IntKind.i64 0, Value.int IntKind.i64 0,
                              Value.int IntKind.i64 0]
                            32 fun p w' =>
                            Wr w' p [Value.int IntKind.i64 n, Value.int IntKind.i64 n_1, Value.int IntKind.i64 n_2]
                              fun w' =>
                              ∃ n,
                                World.cell? w' (Addr.add p 0) = some (Value.int IntKind.i64 n) ∧
                                  ∃ n_3,
                                    World.cell? w' (Addr.add p 1) = some (Value.int IntKind.i64 n_3) ∧
                                      ∃ n_4,
                                        World.cell? w' (Addr.add p 2) = some (Value.int IntKind.i64 n_4) ∧
                                          Call Tryd.prog 9
                                            [Value.pointer p5_l, Value.pointer p7_r,
                                              Value.agg
                                                #[Value.int IntKind.i64 n, Value.int IntKind.i64 n_3,
                                                  Value.int IntKind.i64 n_4]]
                                            w' fun e w' =>
                                            ∃ b,
                                              e = Ending.returned (Value.bool b) ∧
                                                ((!b) = true → R (Ending.returned (Value.bool false)) w') ∧
                                                  ((!b) = false →
                                                    ∃ n,
                                                      World.cell? w' (Addr.add p 2) =
                                                          some (Value.int IntKind.i64 n) ∧
                                                        Call Tryd.prog 10
                                                          [Value.pointer p5_l, Value.int IntKind.i64 n] w' fun e w' =>
                                                          ∃ n b,
                                                            e =
                                                                Ending.returned
                                                                  (Value.tuple
                                                                    #[Value.int IntKind.i64 n, Value.bool b]) ∧
                                                              ∃ n_5,
                                                                World.cell? w' (Addr.add p 2) =
                                                                    some (Value.int IntKind.i64 n_5) ∧
                                                                  Call Tryd.prog 11
                                                                    [Value.pointer p7_r, Value.int IntKind.i64 n_5] w'
                                                                    fun e w' =>
                                                                    ∃ n_6 b_1,
                                                                      e =
                                                                          Ending.returned
                                                                            (Value.tuple
                                                                              #[Value.int IntKind.i64 n_6,
                                                                                Value.bool b_1]) ∧
                                                                        ∀ (w'_1 : World),
                                                                          World.heap w'_1 = World.heap w' →
                                                                            World.os w'_1 = World.os w' →
                                                                              World.tape w'_1 = World.tape w' →
                                                                                World.output w'_1 = World.output w' →
                                                                                  ((n != n_6) = false →
                                                                                      ((!b == b_1) = false →
                                                                                          ∃ n,
                                                                                            World.cell? w'_1
                                                                                                  (Addr.add p
                                                                                                    2) =
                                                                                                some
                                                                                                  (Value.int IntKind.i64
                                                                                                    n) ∧
                                                                                              Call Tryd.prog 12
                                                                                                [Value.pointer p5_l,
                                                                                                  Value.int IntKind.i64
                                                                                                    n]
                                                                                                w'_1 fun e w' =>
                                                                                                ∃ b,
                                                                                                  e =
                                                                                                      Ending.returned
                                                                                                        (Value.bool b) ∧
                                                                                                    ((!b == b_1) =
                                                                                                          false →
                                                                                                        ∃ n,
                                                                                                          World.cell? w'
                                                                                                                (Addr.add
                                                                                                                  p
                                                                                                                  1) =
                                                                                                              some
                                                                                                                (Value.int
                                                                                                                  IntKind.i64
                                                                                                                  n) ∧
                                                                                                            ∃ n_7,
                                                                                                              World.cell?
                                                                                                                    w'
                                                                                                                    (Addr.add
                                                                                                                      p
                                                                                                                      1) =
                                                                                                                  some
                                                                                                                    (Value.int
                                                                                                                      IntKind.i64
                                                                                                                      n_7) ∧
                                                                                                                Call
                                                                                                                  Tryd.prog
                                                                                                                  14
                                                                                                                  [Value.pointer
                                                                                                                      p5_l,
                                                                                                                    Value.int
                                                                                                                      IntKind.i64
                                                                                                                      n]
                                                                                                                  w'
                                                                                                                  fun e
                                                                                                                    w' =>
                                                                                                                  ∃ p_1
                                                                                                                    n c,
                                                                                                                    e =
                                                                                                                        Ending.returned
                                                                                                                          (Value.slice
                                                                                                                            p_1
                                                                                                                            n
                                                                                                                            c) ∧
                                                                                                                      World.cell?
                                                                                                                            w'
                                                                                                                            (Addr.add
                                                                                                                              p
                                                                                                                              1) =
                                                                                                                          some
                                                                                                                            (Value.int
                                                                                                                              IntKind.i64
                                                                                                                              n_7) ∧
                                                                                                                        Call
                                                                                                                          Tryd.prog
                                                                                                                          15
                                                                                                                          [Value.pointer
                                                                                                                              p7_r,
                                                                                                                            Value.int
                                                                                                                              IntKind.i64
                                                                                                                              n_7]
                                                                                                                          w'
                                                                                                                          fun
                                                                                                                            e
                                                                                                                            w' =>
                                                                                                                          ∃
                                                                                                                            p_2
                                                                                                                            n_8
                                                                                                                            c_1,
                                                                                                                            e =
                                                                                                                                Ending.returned
                                                                                                                                  (Value.slice
                                                                                                                                    p_2
                                                                                                                                    n_8
                                                                                                                                    c_1) ∧
                                                                                                                              Call
                                                                                                                                Tryd.prog
                                                                                                                                13
                                                                                                                                [Value.slice
                                                                                                                                    p_1
                                                                                                                                    n
                                                                                                                                    c,
                                                                                                                                  Value.slice
                                                                                                                                    p_2
                                                                                                                                    n_8
                                                                                                                                    c_1]
                                                                                                                                w'
                                                                                                                                fun
                                                                                                                                  e
                                                                                                                                  w' =>
                                                                                                                                ∃
                                                                                                                                  b,
                                                                                                                                  e =
                                                                                                                                      Ending.returned
                                                                                                                                        (Value.bool
                                                                                                                                          b) ∧
                                                                                                                                    ((!b) =
                                                                                                                                          false →
                                                                                                                                        Call
                                                                                                                                          Tryd.prog
                                                                                                                                          14
                                                                                                                                          [Value.pointer
                                                                                                                                              p5_l,
                                                                                                                                            Value.int
                                                                                                                                              IntKind.i64
                                                                                                                                              (-1 :
                                                                                                                                                Int)]
                                                                                                                                          w'
                                                                                                                                          fun
                                                                                                                                            e
                                                                                                                                            w' =>
                                                                                                                                          ∃
                                                                                                                                            p_3
                                                                                                                                            n
                                                                                                                                            c,
                                                                                                                                            e =
                                                                                                                                                Ending.returned
                                                                                                                                                  (Value.slice
                                                                                                                                                    p_3
                                                                                                                                                    n
                                                                                                                                                    c) ∧
                                                                                                                                              Call
                                                                                                                                                Tryd.prog
                                                                                                                                                15
                                                                                                                                                [Value.pointer
                                                                                                                                                    p7_r,
                                                                                                                                                  Value.int
                                                                                                                                                    IntKind.i64
                                                                                                                                                    (-1 :
                                                                                                                                                      Int)]
                                                                                                                                                w'
                                                                                                                                                fun
                                                                                                                                                  e
                                                                                                                                                  w' =>
                                                                                                                                                ∃
                                                                                                                                                  p_4
                                                                                                                                                  n_9
                                                                                                                                                  c_2,
                                                                                                                                                  e =
                                                                                                                                                      Ending.returned
                                                                                                                                                        (Value.slice
                                                                                                                                                          p_4
                                                                                                                                                          n_9
                                                                                                                                                          c_2) ∧
                                                                                                                                                    Call
                                                                                                                                                      Tryd.prog
                                                                                                                                                      13
                                                                                                                                                      [Value.slice
                                                                                                                                                          p_3
                                                                                                                                                          n
                                                                                                                                                          c,
                                                                                                                                                        Value.slice
                                                                                                                                                          p_4
                                                                                                                                                          n_9
                                                                                                                                                          c_2]
                                                                                                                                                      w'
                                                                                                                                                      fun
                                                                                                                                                        e
                                                                                                                                                        w' =>
                                                                                                                                                      ∃
                                                                                                                                                        b,
                                                                                                                                                        e =
                                                                                                                                                            Ending.returned
                                                                                                                                                              (Value.bool
                                                                                                                                                                b) ∧
                                                                                                                                                          ((!b) =
                                                                                                                                                                false →
                                                                                                                                                              ∃
                                                                                                                                                                n,
                                                                                                                                                                World.cell?
                                                                                                                                                                      w'
                                                                                                                                                                      (Addr.add
                                                                                                                                                                        p
                                                                                                                                                                        1) =
                                                                                                                                                                    some
                                                                                                                                                                      (Value.int
                                                                                                                                                                        IntKind.i64
                                                                                                                                                                        n) ∧
                                                                                                                                                                  ∃
                                                                                                                                                                    n_10,
                                                                                                                                                                    World.cell?
                                                                                                                                                                          w'
                                                                                                                                                                          (Addr.add
                                                                                                                                                                            p
                                                                                                                                                                            1) =
                                                                                                                                                                        some
                                                                                                                                                                          (Value.int
                                                                                                                                                                            IntKind.i64
                                                                                                                                                                            n_10) ∧
                                                                                                                                                                      Call
                                                                                                                                                                        Tryd.prog
                                                                                                                                                                        16
                                                                                                                                                                        [Value.pointer
                                                                                                                                                                            p5_l,
                                                                                                                                                                          Value.int
                                                                                                                                                                            IntKind.i64
                                                                                                                                                                            n]
                                                                                                                                                                        w'
                                                                                                                                                                        fun
                                                                                                                                                                          e
                                                                                                                                                                          w' =>
                                                                                                                                                                        ∃
                                                                                                                                                                          n,
                                                                                                                                                                          e =
                                                                                                                                                                              Ending.returned
                                                                                                                                                                                (Value.int
                                                                                                                                                                                  IntKind.i64
                                                                                                                                                                                  n) ∧
                                                                                                                                                                            World.cell?
                                                                                                                                                                                  w'
                                                                                                                                                                                  (Addr.add
                                                                                                                                                                                    p
                                                                                                                                                                                    1) =
                                                                                                                                                                                some
                                                                                                                                                                                  (Value.int
                                                                                                                                                                                    IntKind.i64
                                                                                                                                                                                    n_10) ∧
                                                                                                                                                                              Call
                                                                                                                                                                                Tryd.prog
                                                                                                                                                                                15
                                                                                                                                                                                [Value.pointer
                                                                                                                                                                                    p7_r,
                                                                                                                                                                                  Value.int
                                                                                                                                                                                    IntKind.i64
                                                                                                                                                                                    n_10]
                                                                                                                                                                                w'
                                                                                                                                                                                fun
                                                                                                                                                                                  e
                                                                                                                                                                                  w' =>
                                                                                                                                                                                ∃
                                                                                                                                                                                  p
                                                                                                                                                                                  n_11
                                                                                                                                                                                  c,
                                                                                                                                                                                  e =
                                                                                                                                                                                      Ending.returned
                                                                                                                                                                                        (Value.slice
                                                                                                                                                                                          p
                                                                                                                                                                                          n_11
                                                                                                                                                                                          c) ∧
                                                                                                                                                                                    ((n !=
                                                                                                                                                                                            (↑n_11 :
                                                                                                                                                                                              Int)) =
                                                                                                                                                                                          true →
                                                                                                                                                                                        R
                                                                                                                                                                                          (Ending.returned
                                                                                                                                                                                            (Value.bool
                                                                                                                                                                                              false))
                                                                                                                                                                                          w') ∧
                                                                                                                                                                                      ((n !=
                                                                                                                                                                                            (↑n_11 :
                                                                                                                                                                                              Int)) =
                                                                                                                                                                                          false →
                                                                                                                                                                                        B3_1
                                                                                                                                                                                          [(1,
                                                                                                                                                                                              SV.v
                                                                                                                                                                                                (Value.slice
                                                                                                                                                                                                  p1_acts_a
                                                                                                                                                                                                  p1_acts_n
                                                                                                                                                                                                  p1_acts_c)),
                                                                                                                                                                                            (5,
                                                                                                                                                                                              SV.v
                                                                                                                                                                                                (Value.pointer
                                                                                                                                                                                                  p5_l)),
                                                                                                                                                                                            (7,
                                                                                                                                                                                              SV.v
                                                                                                                                                                                                (Value.pointer
                                                                                                                                                                                                  p7_r)),
                                                                                                                                                                                            (9,
                                                                                                                                                                                              SV.v
                                                                                                                                                                                                (Value.int
                                                                                                                                                                                                  IntKind.i64
                                                                                                                                                                                                  (IntKind.wrap
                                                                                                                                                                                                    IntKind.i64
                                                                                                                                                                                                    (p9_i +
                                                                                                                                                                                                      (1 :
                                                                                                                                                                                                        Int)))))]
                                                                                                                                                                                          w')) ∧
                                                                                                                                                            ((!b) =
                                                                                                                                                                true →
                                                                                                                                                              R
                                                                                                                                                                (Ending.returned
                                                                                                                                                                  (Value.bool
                                                                                                                                                                    false))
                                                                                                                                                                w')) ∧
                                                                                                                                      ((!b) =
                                                                                                                                          true →
                                                                                                                                        R
                                                                                                                                          (Ending.returned
                                                                                                                                            (Value.bool
                                                                                                                                              false))
                                                                                                                                          w')) ∧
                                                                                                      ((!b == b_1) =
                                                                                                          true →
                                                                                                        R
                                                                                                          (Ending.returned
                                                                                                            (Value.bool
                                                                                                              false))
                                                                                                          w')) ∧
                                                                                        ((!b == b_1) = true →
                                                                                          R
                                                                                            (Ending.returned
                                                                                              (Value.bool false))
                                                                                            w'_1)) ∧
                                                                                    ((n != n_6) = true →
                                                                                      R
                                                                                        (Ending.returned
                                                                                          (Value.bool false))
                                                                                        w'_1))) ∧
      (decide (p9_i < (120 : Int)) = false → CutD Tryd.prog M3 c3_0 e3_0 w (k3_0 R))) ∧
  (decide (p9_i < (↑p1_acts_n : Int)) = false → CutD Tryd.prog M3 c3_0 e3_0 w (k3_0 R))) := by kernel_rfl
/-! davit/davitlaw17.WorkOnce -/
def M4 : Mt := { N := 136, keep := [(0, [0, 1]), (1, [0, 1, 5, 6]), (2, [0, 1, 5, 6, 27]), (3, [4]), (4, [0, 1, 5, 7]), (5, [0, 1, 5, 7, 8]), (6, [0, 1, 5, 7, 8, 36]), (7, [0, 1, 5, 7, 8]), (8, [0, 1, 5, 7, 8, 9, 10]), (9, [0, 1, 5, 7, 8, 9, 49]), (10, [0, 1, 5, 7, 8]), (11, [1, 5, 7, 11]), (12, [1, 5, 7, 11, 61]), (13, [1, 5, 7, 11]), (14, [1, 5, 7, 11, 12, 13]), (15, [1, 5, 7, 11, 12, 74]), (16, [1, 5, 7, 11, 12, 14]), (17, [1, 5, 7, 11, 12, 14, 15]), (18, [1, 5, 7, 11, 12, 14, 15, 78]), (19, [1, 5, 7, 11, 12, 14, 15]), (20, [1, 5, 7, 11, 12, 14, 15, 86]), (21, [1, 5, 7, 11, 12, 14, 15]), (22, [1, 5, 11, 14, 104]), (23, [4]), (24, [1, 5, 7, 11]), (25, [5, 7, 16]), (26, [5, 7, 16, 109]), (27, [5, 7, 16]), (28, [5, 7, 16, 118]), (29, [4]), (30, [4])], ords := [], bk := [(0, [1, 5, 7]), (1, [0, 1, 5, 7, 8]), (2, [5, 7]), (3, [1, 5, 7, 11]), (4, [1, 5, 7, 11, 12, 14]), (5, [1, 5, 7, 11, 12, 14, 15]), (6, [5, 7]), (7, [5, 7, 16])], cuts := [(11, [1, 5, 7]), (22, [1, 5, 7, 11, 12, 14]), (25, [5, 7]), (30, [5, 7])], lk := [(6, [0, 1, 5, 7, 8]), (12, [1, 5, 7, 11]), (18, [1, 5, 7, 11, 12, 14, 15]), (26, [5, 7, 16])] }
noncomputable def c4 : Code := bodyOf Tryd.f4
noncomputable def c4_0 : Code := c4.sr.sr.sr.sr.sr
noncomputable def c4_1 : Code := c4.sr.sr.sr.sr.sr.sr
noncomputable def c4_2 : Code := c4.sr.sr.sr.sr.sr.sr.sr
noncomputable def c4_3 : Code := c4.sr.sr.sr.sr.sl.sr.sl.sl
noncomputable def c4_4 : Code := c4.sr.sr.sr.sr.sr.sl.sr.sl.sl
noncomputable def c4_5 : Code := c4.sr.sr.sr.sr.sr.sr.sl.sr.sl.sl
noncomputable def c4_6 : Code := c4.sr.sr.sr.sr.sr.sl.sr.sl.sl.sr.sr
noncomputable def c4_7 : Code := c4.sr.sr.sr.sr.sr.sl.sr.sl.sl.sr.sl.sl.sr.sr.sr.sr
noncomputable def c4_8 : Code := c4.sr.sr.sr.sr.sr.sl.sr.sl.sl.sr.sl.sl.sr.sr.sr.sl.sr.sl.sl
def e4_0 (p1_takes_a : Option Addr) (p1_takes_n : Nat) (p1_takes_c : Nat) (p5_l : Option Addr) (p7_left_a : Option Addr) (p7_left_n : Nat) (p7_left_c : Nat) : Env := [(1, SV.v (Value.slice p1_takes_a p1_takes_n p1_takes_c)), (5, SV.v (Value.pointer p5_l)), (7, SV.v (Value.slice p7_left_a p7_left_n p7_left_c))]
def e4_3 (p0_to_a : Option Addr) (p0_to_n : Nat) (p0_to_c : Nat) (p1_takes_a : Option Addr) (p1_takes_n : Nat) (p1_takes_c : Nat) (p5_l : Option Addr) (p7_left_a : Option Addr) (p7_left_n : Nat) (p7_left_c : Nat) (p8_i : Int) : Env := [(0, SV.v (Value.slice p0_to_a p0_to_n p0_to_c)), (1, SV.v (Value.slice p1_takes_a p1_takes_n p1_takes_c)), (5, SV.v (Value.pointer p5_l)), (7, SV.v (Value.slice p7_left_a p7_left_n p7_left_c)), (8, SV.v (Value.int IntKind.i64 p8_i))]
def e4_1 (p5_l : Option Addr) (p7_left_a : Option Addr) (p7_left_n : Nat) (p7_left_c : Nat) : Env := [(5, SV.v (Value.pointer p5_l)), (7, SV.v (Value.slice p7_left_a p7_left_n p7_left_c))]
def e4_4 (p1_takes_a : Option Addr) (p1_takes_n : Nat) (p1_takes_c : Nat) (p5_l : Option Addr) (p7_left_a : Option Addr) (p7_left_n : Nat) (p7_left_c : Nat) (p11_i : Int) : Env := [(1, SV.v (Value.slice p1_takes_a p1_takes_n p1_takes_c)), (5, SV.v (Value.pointer p5_l)), (7, SV.v (Value.slice p7_left_a p7_left_n p7_left_c)), (11, SV.v (Value.int IntKind.i64 p11_i))]
def e4_7 (p1_takes_a : Option Addr) (p1_takes_n : Nat) (p1_takes_c : Nat) (p5_l : Option Addr) (p7_left_a : Option Addr) (p7_left_n : Nat) (p7_left_c : Nat) (p11_i : Int) (p12_id : Int) (p14_now_a : Option Addr) (p14_now_n : Nat) (p14_now_c : Nat) : Env := [(1, SV.v (Value.slice p1_takes_a p1_takes_n p1_takes_c)), (5, SV.v (Value.pointer p5_l)), (7, SV.v (Value.slice p7_left_a p7_left_n p7_left_c)), (11, SV.v (Value.int IntKind.i64 p11_i)), (12, SV.v (Value.int IntKind.i64 p12_id)), (14, SV.v (Value.slice p14_now_a p14_now_n p14_now_c))]
def e4_8 (p1_takes_a : Option Addr) (p1_takes_n : Nat) (p1_takes_c : Nat) (p5_l : Option Addr) (p7_left_a : Option Addr) (p7_left_n : Nat) (p7_left_c : Nat) (p11_i : Int) (p12_id : Int) (p14_now_a : Option Addr) (p14_now_n : Nat) (p14_now_c : Nat) (p15_k : Int) : Env := [(1, SV.v (Value.slice p1_takes_a p1_takes_n p1_takes_c)), (5, SV.v (Value.pointer p5_l)), (7, SV.v (Value.slice p7_left_a p7_left_n p7_left_c)), (11, SV.v (Value.int IntKind.i64 p11_i)), (12, SV.v (Value.int IntKind.i64 p12_id)), (14, SV.v (Value.slice p14_now_a p14_now_n p14_now_c)), (15, SV.v (Value.int IntKind.i64 p15_k))]
def e4_2 (p5_l : Option Addr) (p7_left_a : Option Addr) (p7_left_n : Nat) (p7_left_c : Nat) : Env := [(5, SV.v (Value.pointer p5_l)), (7, SV.v (Value.slice p7_left_a p7_left_n p7_left_c))]
def e4_5 (p5_l : Option Addr) (p7_left_a : Option Addr) (p7_left_n : Nat) (p7_left_c : Nat) (p16_i : Int) : Env := [(5, SV.v (Value.pointer p5_l)), (7, SV.v (Value.slice p7_left_a p7_left_n p7_left_c)), (16, SV.v (Value.int IntKind.i64 p16_i))]
def k4_0 (R : Ending → World → Prop) : Cont := retK Tryd.prog Tryd.f4.results.toList R
def k4_3 (R : Ending → World → Prop) : Cont := blockK 0 [1, 5, 7] (seqK (fun E w => cutB (findL M4.cuts (headReg c4_0)) Tryd.prog M4 c4_0 E w (retK Tryd.prog Tryd.f4.results.toList R) fun E => den Tryd.prog M4 c4_0 E w (retK Tryd.prog Tryd.f4.results.toList R)) (retK Tryd.prog Tryd.f4.results.toList R))
def k4_1 (R : Ending → World → Prop) : Cont := retK Tryd.prog Tryd.f4.results.toList R
def k4_4 (R : Ending → World → Prop) : Cont := blockK 2 [5, 7] (seqK (fun E w => cutB (findL M4.cuts (headReg c4_1)) Tryd.prog M4 c4_1 E w (retK Tryd.prog Tryd.f4.results.toList R) fun E => den Tryd.prog M4 c4_1 E w (retK Tryd.prog Tryd.f4.results.toList R)) (retK Tryd.prog Tryd.f4.results.toList R))
def k4_7 (B4_4 : Env → World → Prop) (R : Ending → World → Prop) : Cont := blockK 3 [1, 5, 7, 11] (seqK (fun E w => cutB (findL M4.cuts (headReg c4_6)) Tryd.prog M4 c4_6 E w (loopK B4_4 (blockK 2 [5, 7] (seqK (fun E w => cutB (findL M4.cuts (headReg c4_1)) Tryd.prog M4 c4_1 E w (retK Tryd.prog Tryd.f4.results.toList R) fun E => den Tryd.prog M4 c4_1 E w (retK Tryd.prog Tryd.f4.results.toList R)) (retK Tryd.prog Tryd.f4.results.toList R)))) fun E => den Tryd.prog M4 c4_6 E w (loopK B4_4 (blockK 2 [5, 7] (seqK (fun E w => cutB (findL M4.cuts (headReg c4_1)) Tryd.prog M4 c4_1 E w (retK Tryd.prog Tryd.f4.results.toList R) fun E => den Tryd.prog M4 c4_1 E w (retK Tryd.prog Tryd.f4.results.toList R)) (retK Tryd.prog Tryd.f4.results.toList R))))) (loopK B4_4 (blockK 2 [5, 7] (seqK (fun E w => cutB (findL M4.cuts (headReg c4_1)) Tryd.prog M4 c4_1 E w (retK Tryd.prog Tryd.f4.results.toList R) fun E => den Tryd.prog M4 c4_1 E w (retK Tryd.prog Tryd.f4.results.toList R)) (retK Tryd.prog Tryd.f4.results.toList R)))))
def k4_8 (B4_4 : Env → World → Prop) (R : Ending → World → Prop) : Cont := blockK 4 [1, 5, 7, 11, 12, 14] (seqK (fun E w => cutB (findL M4.cuts (headReg c4_7)) Tryd.prog M4 c4_7 E w (blockK 3 [1, 5, 7, 11] (seqK (fun E w => cutB (findL M4.cuts (headReg c4_6)) Tryd.prog M4 c4_6 E w (loopK B4_4 (blockK 2 [5, 7] (seqK (fun E w => cutB (findL M4.cuts (headReg c4_1)) Tryd.prog M4 c4_1 E w (retK Tryd.prog Tryd.f4.results.toList R) fun E => den Tryd.prog M4 c4_1 E w (retK Tryd.prog Tryd.f4.results.toList R)) (retK Tryd.prog Tryd.f4.results.toList R)))) fun E => den Tryd.prog M4 c4_6 E w (loopK B4_4 (blockK 2 [5, 7] (seqK (fun E w => cutB (findL M4.cuts (headReg c4_1)) Tryd.prog M4 c4_1 E w (retK Tryd.prog Tryd.f4.results.toList R) fun E => den Tryd.prog M4 c4_1 E w (retK Tryd.prog Tryd.f4.results.toList R)) (retK Tryd.prog Tryd.f4.results.toList R))))) (loopK B4_4 (blockK 2 [5, 7] (seqK (fun E w => cutB (findL M4.cuts (headReg c4_1)) Tryd.prog M4 c4_1 E w (retK Tryd.prog Tryd.f4.results.toList R) fun E => den Tryd.prog M4 c4_1 E w (retK Tryd.prog Tryd.f4.results.toList R)) (retK Tryd.prog Tryd.f4.results.toList R)))))) fun E => den Tryd.prog M4 c4_7 E w (blockK 3 [1, 5, 7, 11] (seqK (fun E w => cutB (findL M4.cuts (headReg c4_6)) Tryd.prog M4 c4_6 E w (loopK B4_4 (blockK 2 [5, 7] (seqK (fun E w => cutB (findL M4.cuts (headReg c4_1)) Tryd.prog M4 c4_1 E w (retK Tryd.prog Tryd.f4.results.toList R) fun E => den Tryd.prog M4 c4_1 E w (retK Tryd.prog Tryd.f4.results.toList R)) (retK Tryd.prog Tryd.f4.results.toList R)))) fun E => den Tryd.prog M4 c4_6 E w (loopK B4_4 (blockK 2 [5, 7] (seqK (fun E w => cutB (findL M4.cuts (headReg c4_1)) Tryd.prog M4 c4_1 E w (retK Tryd.prog Tryd.f4.results.toList R) fun E => den Tryd.prog M4 c4_1 E w (retK Tryd.prog Tryd.f4.results.toList R)) (retK Tryd.prog Tryd.f4.results.toList R))))) (loopK B4_4 (blockK 2 [5, 7] (seqK (fun E w => cutB (findL M4.cuts (headReg c4_1)) Tryd.prog M4 c4_1 E w (retK Tryd.prog Tryd.f4.results.toList R) fun E => den Tryd.prog M4 c4_1 E w (retK Tryd.prog Tryd.f4.results.toList R)) (retK Tryd.prog Tryd.f4.results.toList R))))))) (blockK 3 [1, 5, 7, 11] (seqK (fun E w => cutB (findL M4.cuts (headReg c4_6)) Tryd.prog M4 c4_6 E w (loopK B4_4 (blockK 2 [5, 7] (seqK (fun E w => cutB (findL M4.cuts (headReg c4_1)) Tryd.prog M4 c4_1 E w (retK Tryd.prog Tryd.f4.results.toList R) fun E => den Tryd.prog M4 c4_1 E w (retK Tryd.prog Tryd.f4.results.toList R)) (retK Tryd.prog Tryd.f4.results.toList R)))) fun E => den Tryd.prog M4 c4_6 E w (loopK B4_4 (blockK 2 [5, 7] (seqK (fun E w => cutB (findL M4.cuts (headReg c4_1)) Tryd.prog M4 c4_1 E w (retK Tryd.prog Tryd.f4.results.toList R) fun E => den Tryd.prog M4 c4_1 E w (retK Tryd.prog Tryd.f4.results.toList R)) (retK Tryd.prog Tryd.f4.results.toList R))))) (loopK B4_4 (blockK 2 [5, 7] (seqK (fun E w => cutB (findL M4.cuts (headReg c4_1)) Tryd.prog M4 c4_1 E w (retK Tryd.prog Tryd.f4.results.toList R) fun E => den Tryd.prog M4 c4_1 E w (retK Tryd.prog Tryd.f4.results.toList R)) (retK Tryd.prog Tryd.f4.results.toList R)))))))
def k4_2 (R : Ending → World → Prop) : Cont := retK Tryd.prog Tryd.f4.results.toList R
def k4_5 (R : Ending → World → Prop) : Cont := blockK 6 [5, 7] (seqK (fun E w => cutB (findL M4.cuts (headReg c4_2)) Tryd.prog M4 c4_2 E w (retK Tryd.prog Tryd.f4.results.toList R) fun E => den Tryd.prog M4 c4_2 E w (retK Tryd.prog Tryd.f4.results.toList R)) (retK Tryd.prog Tryd.f4.results.toList R))
theorem b4 : Tryd.f4.body = some c4 := by kernel_rfl
theorem n4 : Tryd.f4.ntmps = M4.N := by kernel_rfl
theorem u4 {p0_to_a : Option Addr} {p0_to_n : Nat} {p0_to_c : Nat} {p1_takes_a : Option Addr} {p1_takes_n : Nat} {p1_takes_c : Nat} {w : World} {R : Ending → World → Prop} (h : den Tryd.prog M4 c4 (argE 0 [(Value.slice p0_to_a p0_to_n p0_to_c), (Value.slice p1_takes_a p1_takes_n p1_takes_c)]) w (retK Tryd.prog Tryd.f4.results.toList R)) : Calls Tryd.prog 4 #[(Value.slice p0_to_a p0_to_n p0_to_c), (Value.slice p1_takes_a p1_takes_n p1_takes_c)] w R := calls_den okProg Tryd.func4 b4 n4 (Nat.le_of_ble_eq_true rfl) h
theorem t4 (p0_to_a : Option Addr) (p0_to_n : Nat) (p0_to_c : Nat) (p1_takes_a : Option Addr) (p1_takes_n : Nat) (p1_takes_c : Nat) (w : World) (R : Ending → World → Prop) : den Tryd.prog M4 c4 (argE 0 [(Value.slice p0_to_a p0_to_n p0_to_c), (Value.slice p1_takes_a p1_takes_n p1_takes_c)]) w (retK Tryd.prog Tryd.f4.results.toList R) =
(Call Tryd.prog 6 [Value.int IntKind.i64 3] w fun e w' =>
  ∃ p n,
    e = Ending.returned (Value.tuple #[Value.pointer p, Value.int IntKind.i64 n]) ∧
      ((n != (0 : Int)) = false →
          (decide ((↑p0_to_n : Int) > (32 : Int)) = true →
              ((n == (0 : Int)) = true →
                  Call Tryd.prog 8 [] w' fun e w' =>
                    ∃ b, e = Ending.returned (Value.bool b) ∧ R (Ending.returned (Value.bool b)) w') ∧
                ((n == (0 : Int)) = false → R (Ending.returned (Value.bool false)) w')) ∧
            (decide ((↑p0_to_n : Int) > (32 : Int)) = false →
              Cut
                (WP Tryd.prog 136 (Code.loop c4_3)
                  (e4_3 p0_to_a p0_to_n p0_to_c p1_takes_a p1_takes_n p1_takes_c p none 0 0
                    (0 : Int))
                  w' (k4_3 R)))) ∧
        ((n != (0 : Int)) = true →
          ((n == (0 : Int)) = true →
              Call Tryd.prog 8 [] w' fun e w' =>
                ∃ b, e = Ending.returned (Value.bool b) ∧ R (Ending.returned (Value.bool b)) w') ∧
            ((n == (0 : Int)) = false → R (Ending.returned (Value.bool false)) w'))) := by kernel_rfl
theorem t4_0 (p1_takes_a : Option Addr) (p1_takes_n : Nat) (p1_takes_c : Nat) (p5_l : Option Addr) (p7_left_a : Option Addr) (p7_left_n : Nat) (p7_left_c : Nat) (w : World) (R : Ending → World → Prop) : den Tryd.prog M4 c4_0 (e4_0 p1_takes_a p1_takes_n p1_takes_c p5_l p7_left_a p7_left_n p7_left_c) w (k4_0 R) =
(Cut
  (WP Tryd.prog 136 (Code.loop c4_4)
    (e4_4 p1_takes_a p1_takes_n p1_takes_c p5_l p7_left_a p7_left_n p7_left_c (0 : Int)) w (k4_4 R))) := by kernel_rfl
theorem t4_3 (p0_to_a : Option Addr) (p0_to_n : Nat) (p0_to_c : Nat) (p1_takes_a : Option Addr) (p1_takes_n : Nat) (p1_takes_c : Nat) (p5_l : Option Addr) (p7_left_a : Option Addr) (p7_left_n : Nat) (p7_left_c : Nat) (p8_i : Int) (w : World) (B4_3 : Env → World → Prop) (R : Ending → World → Prop) : den Tryd.prog M4 c4_3 (e4_3 p0_to_a p0_to_n p0_to_c p1_takes_a p1_takes_n p1_takes_c p5_l p7_left_a p7_left_n p7_left_c p8_i) w (loopK B4_3 (k4_3 R)) =
((decide (p8_i < (↑p0_to_n : Int)) = true →
    ((0 : Int) ≤ p8_i ∧ p8_i < (↑p0_to_n : Int)) ∧
      ∃ a,
        p0_to_a = some a ∧
          ∃ n,
            World.cell? w (Addr.add a (Int.toNat p8_i * 1)) = some (Value.int IntKind.i64 n) ∧
              Call Tryd.prog 17 [Value.pointer p5_l, Value.int IntKind.i64 n] w fun e w' =>
                ∃ n n_1,
                  e = Ending.returned (Value.tuple #[Value.int IntKind.i64 n, Value.int IntKind.i64 n_1]) ∧
                    ((n_1 == (0 : Int)) = true →
                        New w' [Value.int IntKind.i64 n] 3 fun p w' =>
                          ∃ p_1 n c w'_1,
                            Sem.run Tryd.prog
                                  (Builtin.append_ #[38, 38] 38
                                    #[Value.slice p7_left_a p7_left_n p7_left_c,
                                      Value.slice (some p) 1 1])
                                  w' =
                                Result.ok (Value.slice p_1 n c) w'_1 ∧
                              B4_3
                                [(0, SV.v (Value.slice p0_to_a p0_to_n p0_to_c)),
                                  (1, SV.v (Value.slice p1_takes_a p1_takes_n p1_takes_c)),
                                  (5, SV.v (Value.pointer p5_l)), (7, SV.v (Value.slice p_1 n c)),
                                  (8,
                                    SV.v (Value.int IntKind.i64 (IntKind.wrap IntKind.i64 (p8_i + (1 : Int)))))]
                                w'_1) ∧
                      ((n_1 == (0 : Int)) = false →
                        B4_3
                          [(0, SV.v (Value.slice p0_to_a p0_to_n p0_to_c)),
                            (1, SV.v (Value.slice p1_takes_a p1_takes_n p1_takes_c)),
                            (5, SV.v (Value.pointer p5_l)),
                            (7, SV.v (Value.slice p7_left_a p7_left_n p7_left_c)),
                            (8, SV.v (Value.int IntKind.i64 (IntKind.wrap IntKind.i64 (p8_i + (1 : Int)))))]
                          w')) ∧
  (decide (p8_i < (↑p0_to_n : Int)) = false →
    CutD Tryd.prog M4 c4_0 (e4_0 p1_takes_a p1_takes_n p1_takes_c p5_l p7_left_a p7_left_n p7_left_c) w
      (k4_0 R))) := by kernel_rfl
theorem t4_1 (p5_l : Option Addr) (p7_left_a : Option Addr) (p7_left_n : Nat) (p7_left_c : Nat) (w : World) (R : Ending → World → Prop) : den Tryd.prog M4 c4_1 (e4_1 p5_l p7_left_a p7_left_n p7_left_c) w (k4_1 R) =
(Cut (WP Tryd.prog 136 (Code.loop c4_5) (e4_5 p5_l p7_left_a p7_left_n p7_left_c (0 : Int)) w (k4_5 R))) := by kernel_rfl
theorem t4_4 (p1_takes_a : Option Addr) (p1_takes_n : Nat) (p1_takes_c : Nat) (p5_l : Option Addr) (p7_left_a : Option Addr) (p7_left_n : Nat) (p7_left_c : Nat) (p11_i : Int) (w : World) (B4_4 : Env → World → Prop) (R : Ending → World → Prop) : den Tryd.prog M4 c4_4 (e4_4 p1_takes_a p1_takes_n p1_takes_c p5_l p7_left_a p7_left_n p7_left_c p11_i) w (loopK B4_4 (k4_4 R)) =
((decide (p11_i < (↑p1_takes_n : Int)) = true →
    (decide (p11_i < (100 : Int)) = true →
        ((0 : Int) ≤ p11_i ∧ p11_i < (↑p1_takes_n : Int)) ∧
          ∃ a,
            p1_takes_a = some a ∧
              ∃ n,
                World.cell? w (Addr.add a (Int.toNat p11_i * 1)) = some (Value.int IntKind.i64 n) ∧
                  Call Tryd.prog 18 [Value.pointer p5_l, Value.int IntKind.i64 n] w fun e w' =>
                    ∃ n n_1,
                      e = Ending.returned (Value.tuple #[Value.int IntKind.i64 n, Value.int IntKind.i64 n_1]) ∧
                        ((n_1 != (0 : Int)) = true →
                            B4_4
                              [(1, SV.v (Value.slice p1_takes_a p1_takes_n p1_takes_c)),
                                (5, SV.v (Value.pointer p5_l)),
                                (7, SV.v (Value.slice p7_left_a p7_left_n p7_left_c)),
                                (11,
                                  SV.v (Value.int IntKind.i64 (IntKind.wrap IntKind.i64 (p11_i + (1 : Int)))))]
                              w') ∧
                          ((n_1 != (0 : Int)) = false →
                            Cut
                              (WP Tryd.prog 136 (Code.loop c4_8)
                                (e4_8 p1_takes_a p1_takes_n p1_takes_c p5_l p7_left_a p7_left_n p7_left_c p11_i
                                  n none 0 0 (0 : Int))
                                w' (k4_8 B4_4 R)))) ∧
      (decide (p11_i < (100 : Int)) = false →
        CutD Tryd.prog M4 c4_1 (e4_1 p5_l p7_left_a p7_left_n p7_left_c) w (k4_1 R))) ∧
  (decide (p11_i < (↑p1_takes_n : Int)) = false →
    CutD Tryd.prog M4 c4_1 (e4_1 p5_l p7_left_a p7_left_n p7_left_c) w (k4_1 R))) := by kernel_rfl
theorem t4_7 (p1_takes_a : Option Addr) (p1_takes_n : Nat) (p1_takes_c : Nat) (p5_l : Option Addr) (p7_left_a : Option Addr) (p7_left_n : Nat) (p7_left_c : Nat) (p11_i : Int) (p12_id : Int) (p14_now_a : Option Addr) (p14_now_n : Nat) (p14_now_c : Nat) (w : World) (B4_4 : Env → World → Prop) (R : Ending → World → Prop) : den Tryd.prog M4 c4_7 (e4_7 p1_takes_a p1_takes_n p1_takes_c p5_l p7_left_a p7_left_n p7_left_c p11_i p12_id p14_now_a p14_now_n p14_now_c) w (k4_7 B4_4 R) =
((((↑p14_now_n : Int) != IntKind.wrap IntKind.i64 ((↑p7_left_n : Int) - (1 : Int))) = false →
    Call Tryd.prog 12 [Value.pointer p5_l, Value.int IntKind.i64 p12_id] w fun e w' =>
      ∃ b,
        e = Ending.returned (Value.bool b) ∧
          (b = true → R (Ending.returned (Value.bool false)) w') ∧
            (b = false →
              B4_4
                [(1, SV.v (Value.slice p1_takes_a p1_takes_n p1_takes_c)),
                  (5, SV.v (Value.pointer p5_l)),
                  (7, SV.v (Value.slice p14_now_a p14_now_n p14_now_c)),
                  (11, SV.v (Value.int IntKind.i64 (IntKind.wrap IntKind.i64 (p11_i + (1 : Int)))))]
                w')) ∧
  (((↑p14_now_n : Int) != IntKind.wrap IntKind.i64 ((↑p7_left_n : Int) - (1 : Int))) = true →
    R (Ending.returned (Value.bool false)) w)) := by kernel_rfl
theorem t4_8 (p1_takes_a : Option Addr) (p1_takes_n : Nat) (p1_takes_c : Nat) (p5_l : Option Addr) (p7_left_a : Option Addr) (p7_left_n : Nat) (p7_left_c : Nat) (p11_i : Int) (p12_id : Int) (p14_now_a : Option Addr) (p14_now_n : Nat) (p14_now_c : Nat) (p15_k : Int) (w : World) (B4_4 : Env → World → Prop) (B4_8 : Env → World → Prop) (R : Ending → World → Prop) : den Tryd.prog M4 c4_8 (e4_8 p1_takes_a p1_takes_n p1_takes_c p5_l p7_left_a p7_left_n p7_left_c p11_i p12_id p14_now_a p14_now_n p14_now_c p15_k) w (loopK B4_8 (k4_8 B4_4 R)) =
((decide (p15_k < (↑p7_left_n : Int)) = true →
    ((0 : Int) ≤ p15_k ∧ p15_k < (↑p7_left_n : Int)) ∧
      ∃ a,
        p7_left_a = some a ∧
          ∃ n,
            World.cell? w (Addr.add a (Int.toNat p15_k * 1)) = some (Value.int IntKind.i64 n) ∧
              ((n != p12_id) = true →
                  ((0 : Int) ≤ p15_k ∧ p15_k < (↑p7_left_n : Int)) ∧
                    ∃ a,
                      p7_left_a = some a ∧
                        ∃ n,
                          World.cell? w (Addr.add a (Int.toNat p15_k * 1)) = some (Value.int IntKind.i64 n) ∧
                            New w [Value.int IntKind.i64 n] 3 fun p w' =>
                              ∃ p_1 n c w'_1,
                                Sem.run Tryd.prog
                                      (Builtin.append_ #[38, 38] 38
                                        #[Value.slice p14_now_a p14_now_n p14_now_c,
                                          Value.slice (some p) 1 1])
                                      w' =
                                    Result.ok (Value.slice p_1 n c) w'_1 ∧
                                  B4_8
                                    [(1, SV.v (Value.slice p1_takes_a p1_takes_n p1_takes_c)),
                                      (5, SV.v (Value.pointer p5_l)),
                                      (7, SV.v (Value.slice p7_left_a p7_left_n p7_left_c)),
                                      (11, SV.v (Value.int IntKind.i64 p11_i)),
                                      (12, SV.v (Value.int IntKind.i64 p12_id)),
                                      (14, SV.v (Value.slice p_1 n c)),
                                      (15,
                                        SV.v (Value.int IntKind.i64 (IntKind.wrap IntKind.i64 (p15_k + (1 : Int)))))]
                                    w'_1) ∧
                ((n != p12_id) = false →
                  B4_8
                    [(1, SV.v (Value.slice p1_takes_a p1_takes_n p1_takes_c)),
                      (5, SV.v (Value.pointer p5_l)),
                      (7, SV.v (Value.slice p7_left_a p7_left_n p7_left_c)),
                      (11, SV.v (Value.int IntKind.i64 p11_i)),
                      (12, SV.v (Value.int IntKind.i64 p12_id)),
                      (14, SV.v (Value.slice p14_now_a p14_now_n p14_now_c)),
                      (15, SV.v (Value.int IntKind.i64 (IntKind.wrap IntKind.i64 (p15_k + (1 : Int)))))]
                    w)) ∧
  (decide (p15_k < (↑p7_left_n : Int)) = false →
    CutD Tryd.prog M4 c4_7
      (e4_7 p1_takes_a p1_takes_n p1_takes_c p5_l p7_left_a p7_left_n p7_left_c p11_i p12_id p14_now_a
        p14_now_n p14_now_c)
      w (k4_7 B4_4 R))) := by kernel_rfl
theorem t4_2 (p5_l : Option Addr) (p7_left_a : Option Addr) (p7_left_n : Nat) (p7_left_c : Nat) (w : World) (R : Ending → World → Prop) : den Tryd.prog M4 c4_2 (e4_2 p5_l p7_left_a p7_left_n p7_left_c) w (k4_2 R) =
(Call Tryd.prog 16 [Value.pointer p5_l, Value.int IntKind.i64 0] w fun e w' =>
  ∃ n,
    e = Ending.returned (Value.int IntKind.i64 n) ∧
      Call Tryd.prog 16 [Value.pointer p5_l, Value.int IntKind.i64 1] w' fun e w' =>
        ∃ n_1,
          e = Ending.returned (Value.int IntKind.i64 n_1) ∧
            Call Tryd.prog 16 [Value.pointer p5_l, Value.int IntKind.i64 2] w' fun e w' =>
              ∃ n_2,
                e = Ending.returned (Value.int IntKind.i64 n_2) ∧
                  Call Tryd.prog 16 [Value.pointer p5_l, Value.int IntKind.i64 (-1 : Int)] w' fun e w' =>
                    ∃ n_3,
                      e = Ending.returned (Value.int IntKind.i64 n_3) ∧
                        ((IntKind.wrap IntKind.i64
                                  (IntKind.wrap IntKind.i64 (IntKind.wrap IntKind.i64 (n + n_1) + n_2) + n_3) ==
                                (↑p7_left_n : Int)) =
                              true →
                            Call Tryd.prog 8 [] w' fun e w' =>
                              ∃ b, e = Ending.returned (Value.bool b) ∧ R (Ending.returned (Value.bool b)) w') ∧
                          ((IntKind.wrap IntKind.i64
                                  (IntKind.wrap IntKind.i64 (IntKind.wrap IntKind.i64 (n + n_1) + n_2) + n_3) ==
                                (↑p7_left_n : Int)) =
                              false →
                            R (Ending.returned (Value.bool false)) w')) := by kernel_rfl
theorem t4_5 (p5_l : Option Addr) (p7_left_a : Option Addr) (p7_left_n : Nat) (p7_left_c : Nat) (p16_i : Int) (w : World) (B4_5 : Env → World → Prop) (R : Ending → World → Prop) : den Tryd.prog M4 c4_5 (e4_5 p5_l p7_left_a p7_left_n p7_left_c p16_i) w (loopK B4_5 (k4_5 R)) =
((decide (p16_i < (↑p7_left_n : Int)) = true →
    ((0 : Int) ≤ p16_i ∧ p16_i < (↑p7_left_n : Int)) ∧
      ∃ a,
        p7_left_a = some a ∧
          ∃ n,
            World.cell? w (Addr.add a (Int.toNat p16_i * 1)) = some (Value.int IntKind.i64 n) ∧
              Call Tryd.prog 12 [Value.pointer p5_l, Value.int IntKind.i64 n] w fun e w' =>
                ∃ b,
                  e = Ending.returned (Value.bool b) ∧
                    ((!b) = true → R (Ending.returned (Value.bool false)) w') ∧
                      ((!b) = false →
                        B4_5
                          [(5, SV.v (Value.pointer p5_l)),
                            (7, SV.v (Value.slice p7_left_a p7_left_n p7_left_c)),
                            (16, SV.v (Value.int IntKind.i64 (IntKind.wrap IntKind.i64 (p16_i + (1 : Int)))))]
                          w')) ∧
  (decide (p16_i < (↑p7_left_n : Int)) = false →
    CutD Tryd.prog M4 c4_2 (e4_2 p5_l p7_left_a p7_left_n p7_left_c) w (k4_2 R))) := by kernel_rfl
/-! davit/davitlaw17.WorkNil -/
def M5 : Mt := { N := 80, keep := [(0, [0, 1]), (1, [0, 1, 5]), (2, [0, 1, 5, 7]), (3, [0, 1, 5, 7, 9]), (4, [0, 1, 5, 7, 9, 11]), (5, [0, 1, 5, 7, 9, 11, 13]), (6, [4])], ords := [], bk := [], cuts := [], lk := [] }
noncomputable def c5 : Code := bodyOf Tryd.f5
theorem b5 : Tryd.f5.body = some c5 := by kernel_rfl
theorem n5 : Tryd.f5.ntmps = M5.N := by kernel_rfl
theorem u5 {p0_cpu : Int} {p1_id : Int} {w : World} {R : Ending → World → Prop} (h : den Tryd.prog M5 c5 (argE 0 [(Value.int IntKind.i64 p0_cpu), (Value.int IntKind.i64 p1_id)]) w (retK Tryd.prog Tryd.f5.results.toList R)) : Calls Tryd.prog 5 #[(Value.int IntKind.i64 p0_cpu), (Value.int IntKind.i64 p1_id)] w R := calls_den okProg Tryd.func5 b5 n5 (Nat.le_of_ble_eq_true rfl) h
theorem t5 (p0_cpu : Int) (p1_id : Int) (w : World) (R : Ending → World → Prop) : den Tryd.prog M5 c5 (argE 0 [(Value.int IntKind.i64 p0_cpu), (Value.int IntKind.i64 p1_id)]) w (retK Tryd.prog Tryd.f5.results.toList R) =
(Call Tryd.prog 17 [Value.pointer none, Value.int IntKind.i64 p0_cpu] w fun e w' =>
  ∃ n n_1,
    e = Ending.returned (Value.tuple #[Value.int IntKind.i64 n, Value.int IntKind.i64 n_1]) ∧
      Call Tryd.prog 18 [Value.pointer none, Value.int IntKind.i64 p0_cpu] w' fun e w' =>
        ∃ n n_2,
          e = Ending.returned (Value.tuple #[Value.int IntKind.i64 n, Value.int IntKind.i64 n_2]) ∧
            Call Tryd.prog 19 [Value.pointer none, Value.int IntKind.i64 p0_cpu] w' fun e w' =>
              ∃ n n_3,
                e = Ending.returned (Value.tuple #[Value.int IntKind.i64 n, Value.int IntKind.i64 n_3]) ∧
                  Call Tryd.prog 10 [Value.pointer none, Value.int IntKind.i64 p1_id] w' fun e w' =>
                    ∃ n b,
                      e = Ending.returned (Value.tuple #[Value.int IntKind.i64 n, Value.bool b]) ∧
                        ((n_1 == (1 : Int)) = true →
                            ((n_2 == (1 : Int)) = true →
                                ((n_3 == (1 : Int)) = true →
                                    Call Tryd.prog 20 [Value.pointer none, Value.int IntKind.i64 p1_id] w'
                                      fun e w' =>
                                      ∃ n,
                                        e = Ending.returned (Value.int IntKind.i64 n) ∧
                                          ((n == (1 : Int)) = true →
                                              Call Tryd.prog 12
                                                [Value.pointer none, Value.int IntKind.i64 p1_id] w' fun e w' =>
                                                ∃ b_1,
                                                  e = Ending.returned (Value.bool b_1) ∧
                                                    ((!b_1) = true →
                                                        ((!b) = true →
                                                            Call Tryd.prog 14
                                                              [Value.pointer none, Value.int IntKind.i64 p0_cpu] w'
                                                              fun e w' =>
                                                              ∃ p n c,
                                                                e = Ending.returned (Value.slice p n c) ∧
                                                                  (((↑n : Int) == (0 : Int)) = true →
                                                                      Call Tryd.prog 16
                                                                        [Value.pointer none,
                                                                          Value.int IntKind.i64 p0_cpu]
                                                                        w' fun e w' =>
                                                                        ∃ n,
                                                                          e =
                                                                              Ending.returned
                                                                                (Value.int IntKind.i64 n) ∧
                                                                            ((n == (0 : Int)) = true →
                                                                                Call Tryd.prog 8 [] w'
                                                                                  fun e w' =>
                                                                                  ∃ b,
                                                                                    e = Ending.returned (Value.bool b) ∧
                                                                                      R
                                                                                        (Ending.returned (Value.bool b))
                                                                                        w') ∧
                                                                              ((n == (0 : Int)) = false →
                                                                                R (Ending.returned (Value.bool false))
                                                                                  w')) ∧
                                                                    (((↑n : Int) == (0 : Int)) = false →
                                                                      R (Ending.returned (Value.bool false)) w')) ∧
                                                          ((!b) = false → R (Ending.returned (Value.bool false)) w')) ∧
                                                      ((!b_1) = false → R (Ending.returned (Value.bool false)) w')) ∧
                                            ((n == (1 : Int)) = false → R (Ending.returned (Value.bool false)) w')) ∧
                                  ((n_3 == (1 : Int)) = false → R (Ending.returned (Value.bool false)) w')) ∧
                              ((n_2 == (1 : Int)) = false → R (Ending.returned (Value.bool false)) w')) ∧
                          ((n_1 == (1 : Int)) = false → R (Ending.returned (Value.bool false)) w')) := by kernel_rfl
/-! davit/work.New -/
def M6 : Mt := { N := 49, keep := [(0, [0]), (1, [0, 14]), (2, [2, 3]), (3, [0, 4, 5]), (4, [0, 4, 5, 20]), (5, [2, 3]), (6, [0, 6]), (7, [6, 27, 28]), (8, [6, 27, 28, 29]), (9, [6, 7, 8, 27, 28]), (10, [6, 7, 8, 27, 28, 35]), (11, [2, 3]), (12, [6, 27, 28]), (13, [6, 27, 28]), (14, [2, 3])], ords := [], bk := [(0, [6]), (1, [6, 27, 28])], cuts := [], lk := [(8, [6, 27, 28])] }
noncomputable def c6 : Code := bodyOf Tryd.f6
noncomputable def c6_0 : Code := c6.sr.sr.sr.sr.sr.sr
noncomputable def c6_1 : Code := c6.sr.sr.sr.sr.sr.sl.sr.sl.sl
def e6_1 (p6_l : Option Addr) (p27_t : Int) (p28_t : Int) : Env := [(6, SV.v (Value.pointer p6_l)), (27, SV.v (Value.int IntKind.i64 p27_t)), (28, SV.v (Value.int IntKind.i64 p28_t))]
def k6_1 (R : Ending → World → Prop) : Cont := blockK 0 [6] (seqK (fun E w => cutB (findL M6.cuts (headReg c6_0)) Tryd.prog M6 c6_0 E w (retK Tryd.prog Tryd.f6.results.toList R) fun E => den Tryd.prog M6 c6_0 E w (retK Tryd.prog Tryd.f6.results.toList R)) (retK Tryd.prog Tryd.f6.results.toList R))
theorem b6 : Tryd.f6.body = some c6 := by kernel_rfl
theorem n6 : Tryd.f6.ntmps = M6.N := by kernel_rfl
theorem u6 {p0_cpus : Int} {w : World} {R : Ending → World → Prop} (h : den Tryd.prog M6 c6 (argE 0 [(Value.int IntKind.i64 p0_cpus)]) w (retK Tryd.prog Tryd.f6.results.toList R)) : Calls Tryd.prog 6 #[(Value.int IntKind.i64 p0_cpus)] w R := calls_den okProg Tryd.func6 b6 n6 (Nat.le_of_ble_eq_true rfl) h
theorem t6 (p0_cpus : Int) (w : World) (R : Ending → World → Prop) : den Tryd.prog M6 c6 (argE 0 [(Value.int IntKind.i64 p0_cpus)]) w (retK Tryd.prog Tryd.f6.results.toList R) =
((decide (p0_cpus < (1 : Int)) = false →
    (decide (p0_cpus > (64 : Int)) = true →
        R (Ending.returned (Value.tuple #[Value.pointer none, Value.int IntKind.i64 2])) w) ∧
      (decide (p0_cpus > (64 : Int)) = false →
        Call Tryd.prog 21 [Value.int IntKind.i64 32] w fun e w' =>
          ∃ p n,
            e = Ending.returned (Value.tuple #[Value.pointer p, Value.int IntKind.i64 n]) ∧
              ((n != (0 : Int)) = true →
                  R (Ending.returned (Value.tuple #[Value.pointer none, Value.int IntKind.i64 n])) w') ∧
                ((n != (0 : Int)) = false →
                  NewMap w' fun r w' =>
                    New w' [Value.pointer p, Value.slice none 0 0, Value.map (some r)] 52
                      fun p w' =>
                      Cut
                        (WP Tryd.prog 49 (Code.loop c6_1)
                          (e6_1 (some p) (IntKind.wrap IntKind.i64 (p0_cpus + (1 : Int))) (0 : Int)) w' (k6_1 R))))) ∧
  (decide (p0_cpus < (1 : Int)) = true →
    R (Ending.returned (Value.tuple #[Value.pointer none, Value.int IntKind.i64 2])) w)) := by kernel_rfl
theorem t6_1 (p6_l : Option Addr) (p27_t : Int) (p28_t : Int) (w : World) (B6_1 : Env → World → Prop) (R : Ending → World → Prop) : den Tryd.prog M6 c6_1 (e6_1 p6_l p27_t p28_t) w (loopK B6_1 (k6_1 R)) =
((decide (p28_t < p27_t) = true →
    Call Tryd.prog 22 [Value.int IntKind.i64 32] w fun e w' =>
      ∃ p n,
        e = Ending.returned (Value.tuple #[Value.pointer p, Value.int IntKind.i64 n]) ∧
          ((n != (0 : Int)) = true →
              R (Ending.returned (Value.tuple #[Value.pointer none, Value.int IntKind.i64 n])) w') ∧
            ((n != (0 : Int)) = false →
              ∃ a,
                p6_l = some a ∧
                  ∃ p_1 n c,
                    World.cell? w' (Addr.add a 1) = some (Value.slice p_1 n c) ∧
                      New w' [Value.pointer p] 53 fun p w' =>
                        ∃ p_2 n_1 c_1 w'_1,
                          Sem.run Tryd.prog
                                (Builtin.append_ #[50, 50] 50
                                  #[Value.slice p_1 n c, Value.slice (some p) 1 1])
                                w' =
                              Result.ok (Value.slice p_2 n_1 c_1) w'_1 ∧
                            ∃ a,
                              p6_l = some a ∧
                                Wr w'_1 (Addr.add a 1) [Value.slice p_2 n_1 c_1] fun w' =>
                                  B6_1
                                    [(6, SV.v (Value.pointer p6_l)),
                                      (27, SV.v (Value.int IntKind.i64 p27_t)),
                                      (28,
                                        SV.v (Value.int IntKind.i64 (IntKind.wrap IntKind.i64 (p28_t + (1 : Int)))))]
                                    w')) ∧
  (decide (p28_t < p27_t) = false →
    R (Ending.returned (Value.tuple #[Value.pointer p6_l, Value.int IntKind.i64 0])) w)) := by kernel_rfl
/-! davit/davitref17.New -/
def M7 : Mt := { N := 15, keep := [(0, [0]), (1, [0, 9]), (2, [2, 3]), (3, [2, 3])], ords := [], bk := [], cuts := [], lk := [] }
noncomputable def c7 : Code := bodyOf Tryd.f7
theorem b7 : Tryd.f7.body = some c7 := by kernel_rfl
theorem n7 : Tryd.f7.ntmps = M7.N := by kernel_rfl
theorem u7 {p0_cpus : Int} {w : World} {R : Ending → World → Prop} (h : den Tryd.prog M7 c7 (argE 0 [(Value.int IntKind.i64 p0_cpus)]) w (retK Tryd.prog Tryd.f7.results.toList R)) : Calls Tryd.prog 7 #[(Value.int IntKind.i64 p0_cpus)] w R := calls_den okProg Tryd.func7 b7 n7 (Nat.le_of_ble_eq_true rfl) h
theorem t7 (p0_cpus : Int) (w : World) (R : Ending → World → Prop) : den Tryd.prog M7 c7 (argE 0 [(Value.int IntKind.i64 p0_cpus)]) w (retK Tryd.prog Tryd.f7.results.toList R) =
((decide (p0_cpus < (1 : Int)) = false →
    (decide (p0_cpus > (64 : Int)) = true →
        R (Ending.returned (Value.tuple #[Value.pointer none, Value.int IntKind.i64 2])) w) ∧
      (decide (p0_cpus > (64 : Int)) = false →
        ∃ p n c w',
          Sem.run Tryd.prog
                (Instr.makeSlice 56 (Value.int IntKind.i64 (IntKind.wrap IntKind.i64 (p0_cpus + (1 : Int))))
                  (Value.int IntKind.i64 (IntKind.wrap IntKind.i64 (p0_cpus + (1 : Int)))))
                w =
              Result.ok (Value.slice p n c) w' ∧
            New w' [Value.slice p n c] 58 fun p w' =>
              R (Ending.returned (Value.tuple #[Value.pointer (some p), Value.int IntKind.i64 0])) w')) ∧
  (decide (p0_cpus < (1 : Int)) = true →
    R (Ending.returned (Value.tuple #[Value.pointer none, Value.int IntKind.i64 2])) w)) := by kernel_rfl
/-! davit/davitlaw17.known -/
def M8 : Mt := { N := 79, keep := [(0, []), (1, [1, 2]), (2, [1, 20]), (3, [0]), (4, [1, 3, 4]), (5, [1, 3, 4, 5, 6]), (6, [1, 3, 4, 5, 6, 7, 8]), (7, [1, 3, 4, 5, 6, 7, 8, 9, 10]), (8, [0])], ords := [], bk := [], cuts := [], lk := [] }
noncomputable def c8 : Code := bodyOf Tryd.f8
theorem b8 : Tryd.f8.body = some c8 := by kernel_rfl
theorem n8 : Tryd.f8.ntmps = M8.N := by kernel_rfl
theorem u8  {w : World} {R : Ending → World → Prop} (h : den Tryd.prog M8 c8 (argE 0 []) w (retK Tryd.prog Tryd.f8.results.toList R)) : Calls Tryd.prog 8 #[] w R := calls_den okProg Tryd.func8 b8 n8 (Nat.le_of_ble_eq_true rfl) h
theorem t8  (w : World) (R : Ending → World → Prop) : den Tryd.prog M8 c8 (argE 0 []) w (retK Tryd.prog Tryd.f8.results.toList R) =
(Call Tryd.prog 6 [Value.int IntKind.i64 2] w fun e w' =>
  ∃ p n,
    e = Ending.returned (Value.tuple #[Value.pointer p, Value.int IntKind.i64 n]) ∧
      ((n != (0 : Int)) = false →
          (Option.isNone p = true → R (Ending.returned (Value.bool false)) w') ∧
            (Option.isNone p = false →
              Call Tryd.prog 17 [Value.pointer p, Value.int IntKind.i64 0] w' fun e w' =>
                ∃ n n_1,
                  e = Ending.returned (Value.tuple #[Value.int IntKind.i64 n, Value.int IntKind.i64 n_1]) ∧
                    Call Tryd.prog 17 [Value.pointer p, Value.int IntKind.i64 (-1 : Int)] w' fun e w' =>
                      ∃ n_2 n_3,
                        e = Ending.returned (Value.tuple #[Value.int IntKind.i64 n_2, Value.int IntKind.i64 n_3]) ∧
                          Call Tryd.prog 18 [Value.pointer p, Value.int IntKind.i64 1] w' fun e w' =>
                            ∃ n_4 n_5,
                              e =
                                  Ending.returned
                                    (Value.tuple #[Value.int IntKind.i64 n_4, Value.int IntKind.i64 n_5]) ∧
                                Call Tryd.prog 19 [Value.pointer p, Value.int IntKind.i64 0] w'
                                  fun e w' =>
                                  ∃ n_6 n_7,
                                    e =
                                        Ending.returned
                                          (Value.tuple #[Value.int IntKind.i64 n_6, Value.int IntKind.i64 n_7]) ∧
                                      ((n == (1 : Int)) = true →
                                          ((n_1 == (0 : Int)) = true →
                                              ((n_2 == (2 : Int)) = true →
                                                  ((n_3 == (0 : Int)) = true →
                                                      ((n_4 == (2 : Int)) = true →
                                                          ((n_5 == (0 : Int)) = true →
                                                              ((n_6 == (1 : Int)) = true →
                                                                  ((n_7 == (0 : Int)) = true →
                                                                      Call Tryd.prog 14
                                                                        [Value.pointer p,
                                                                          Value.int IntKind.i64 (-1 : Int)]
                                                                        w' fun e w' =>
                                                                        ∃ p n c,
                                                                          e = Ending.returned (Value.slice p n c) ∧
                                                                            New w' [Value.int IntKind.i64 1]
                                                                              3 fun p_1 w' =>
                                                                              Call Tryd.prog 13
                                                                                [Value.slice p n c,
                                                                                  Value.slice (some p_1) 1
                                                                                    1]
                                                                                w' fun e w' =>
                                                                                ∃ b,
                                                                                  e = Ending.returned (Value.bool b) ∧
                                                                                    R
                                                                                      (Ending.returned
                                                                                        (retV
                                                                                          [match b with
                                                                                            | true => Value.bool true
                                                                                            | false =>
                                                                                              Value.bool false]))
                                                                                      w') ∧
                                                                    ((n_7 == (0 : Int)) = false →
                                                                      R (Ending.returned (Value.bool false)) w')) ∧
                                                                ((n_6 == (1 : Int)) = false →
                                                                  R (Ending.returned (Value.bool false)) w')) ∧
                                                            ((n_5 == (0 : Int)) = false →
                                                              R (Ending.returned (Value.bool false)) w')) ∧
                                                        ((n_4 == (2 : Int)) = false →
                                                          R (Ending.returned (Value.bool false)) w')) ∧
                                                    ((n_3 == (0 : Int)) = false →
                                                      R (Ending.returned (Value.bool false)) w')) ∧
                                                ((n_2 == (2 : Int)) = false →
                                                  R (Ending.returned (Value.bool false)) w')) ∧
                                            ((n_1 == (0 : Int)) = false → R (Ending.returned (Value.bool false)) w')) ∧
                                        ((n == (1 : Int)) = false → R (Ending.returned (Value.bool false)) w'))) ∧
        ((n != (0 : Int)) = true → R (Ending.returned (Value.bool false)) w')) := by kernel_rfl
/-! davit/davitlaw17.do -/
def M9 : Mt := { N := 103, keep := [(0, [0, 1, 5]), (1, [0, 1, 5, 21]), (2, [6]), (3, [0, 1, 5, 21, 31]), (4, [1, 5, 7, 8]), (5, [7, 8, 9, 10]), (6, [6]), (7, [0, 1, 5, 21, 55]), (8, [1, 5, 11, 12]), (9, [11, 12, 13, 14]), (10, [6]), (11, [0, 1, 5, 79]), (12, [1, 5, 15, 16]), (13, [15, 16, 17, 18]), (14, [6])], ords := [(2, [0, 1, 2, 4, 5, 6, 3, 7, 8, 9])], bk := [(0, [6])], cuts := [], lk := [] }
noncomputable def c9 : Code := bodyOf Tryd.f9
theorem b9 : Tryd.f9.body = some c9 := by kernel_rfl
theorem n9 : Tryd.f9.ntmps = M9.N := by kernel_rfl
theorem u9 {p0_l : Option Addr} {p1_r : Option Addr} {p2_a_0 : Int} {p2_a_1 : Int} {p2_a_2 : Int} {w : World} {R : Ending → World → Prop} (h : den Tryd.prog M9 c9 (argE 0 [(Value.pointer p0_l), (Value.pointer p1_r), (Value.agg #[(Value.int IntKind.i64 p2_a_0), (Value.int IntKind.i64 p2_a_1), (Value.int IntKind.i64 p2_a_2)])]) w (retK Tryd.prog Tryd.f9.results.toList R)) : Calls Tryd.prog 9 #[(Value.pointer p0_l), (Value.pointer p1_r), (Value.agg #[(Value.int IntKind.i64 p2_a_0), (Value.int IntKind.i64 p2_a_1), (Value.int IntKind.i64 p2_a_2)])] w R := calls_den okProg Tryd.func9 b9 n9 (Nat.le_of_ble_eq_true rfl) h
theorem t9 (p0_l : Option Addr) (p1_r : Option Addr) (p2_a_0 : Int) (p2_a_1 : Int) (p2_a_2 : Int) (w : World) (R : Ending → World → Prop) : den Tryd.prog M9 c9 (argE 0 [(Value.pointer p0_l), (Value.pointer p1_r), (Value.agg #[(Value.int IntKind.i64 p2_a_0), (Value.int IntKind.i64 p2_a_1), (Value.int IntKind.i64 p2_a_2)])]) w (retK Tryd.prog Tryd.f9.results.toList R) =
(New w [Value.int IntKind.i64 p2_a_0, Value.int IntKind.i64 p2_a_1, Value.int IntKind.i64 p2_a_2] 32
  fun p w' =>
  ∃ n,
    World.cell? w' (Addr.add p 0) = some (Value.int IntKind.i64 n) ∧
      (4 : Int) ≠ (0 : Int) ∧
        ((Int.tmod n (4 : Int) == (0 : Int)) = true →
            ∃ n,
              World.cell? w' (Addr.add p 1) = some (Value.int IntKind.i64 n) ∧
                Call Tryd.prog 17 [Value.pointer p0_l, Value.int IntKind.i64 n] w' fun e w' =>
                  ∃ n n_1,
                    e = Ending.returned (Value.tuple #[Value.int IntKind.i64 n, Value.int IntKind.i64 n_1]) ∧
                      ∃ n_2,
                        World.cell? w' (Addr.add p 1) = some (Value.int IntKind.i64 n_2) ∧
                          Call Tryd.prog 23 [Value.pointer p1_r, Value.int IntKind.i64 n_2] w' fun e w' =>
                            ∃ n_3 n_4,
                              e =
                                  Ending.returned
                                    (Value.tuple #[Value.int IntKind.i64 n_3, Value.int IntKind.i64 n_4]) ∧
                                ((n == n_3) = true → R (Ending.returned (Value.bool (n_1 == n_4))) w') ∧
                                  ((n == n_3) = false → R (Ending.returned (Value.bool false)) w')) ∧
          ((Int.tmod n (4 : Int) == (0 : Int)) = false →
            ((Int.tmod n (4 : Int) == (1 : Int)) = true →
                ∃ n,
                  World.cell? w' (Addr.add p 1) = some (Value.int IntKind.i64 n) ∧
                    Call Tryd.prog 18 [Value.pointer p0_l, Value.int IntKind.i64 n] w' fun e w' =>
                      ∃ n n_1,
                        e = Ending.returned (Value.tuple #[Value.int IntKind.i64 n, Value.int IntKind.i64 n_1]) ∧
                          ∃ n_2,
                            World.cell? w' (Addr.add p 1) = some (Value.int IntKind.i64 n_2) ∧
                              Call Tryd.prog 24 [Value.pointer p1_r, Value.int IntKind.i64 n_2] w' fun e w' =>
                                ∃ n_3 n_4,
                                  e =
                                      Ending.returned
                                        (Value.tuple #[Value.int IntKind.i64 n_3, Value.int IntKind.i64 n_4]) ∧
                                    ((n == n_3) = true → R (Ending.returned (Value.bool (n_1 == n_4))) w') ∧
                                      ((n == n_3) = false → R (Ending.returned (Value.bool false)) w')) ∧
              ((Int.tmod n (4 : Int) == (1 : Int)) = false →
                ((Int.tmod n (4 : Int) == (2 : Int)) = true →
                    ∃ n,
                      World.cell? w' (Addr.add p 1) = some (Value.int IntKind.i64 n) ∧
                        Call Tryd.prog 19 [Value.pointer p0_l, Value.int IntKind.i64 n] w' fun e w' =>
                          ∃ n n_1,
                            e = Ending.returned (Value.tuple #[Value.int IntKind.i64 n, Value.int IntKind.i64 n_1]) ∧
                              ∃ n_2,
                                World.cell? w' (Addr.add p 1) = some (Value.int IntKind.i64 n_2) ∧
                                  Call Tryd.prog 25 [Value.pointer p1_r, Value.int IntKind.i64 n_2] w'
                                    fun e w' =>
                                    ∃ n_3 n_4,
                                      e =
                                          Ending.returned
                                            (Value.tuple #[Value.int IntKind.i64 n_3, Value.int IntKind.i64 n_4]) ∧
                                        ((n == n_3) = true → R (Ending.returned (Value.bool (n_1 == n_4))) w') ∧
                                          ((n == n_3) = false → R (Ending.returned (Value.bool false)) w')) ∧
                  ((Int.tmod n (4 : Int) == (2 : Int)) = false →
                    ∀ (w'_1 : World),
                      World.heap w'_1 = World.heap w' →
                        World.os w'_1 = World.os w' →
                          World.tape w'_1 = World.tape w' →
                            World.output w'_1 = World.output w' →
                              ∃ n,
                                World.cell? w'_1 (Addr.add p 2) = some (Value.int IntKind.i64 n) ∧
                                  ∃ n_1,
                                    World.cell? w'_1 (Addr.add p 2) = some (Value.int IntKind.i64 n_1) ∧
                                      Call Tryd.prog 20 [Value.pointer p0_l, Value.int IntKind.i64 n] w'_1
                                        fun e w' =>
                                        ∃ n,
                                          e = Ending.returned (Value.int IntKind.i64 n) ∧
                                            World.cell? w' (Addr.add p 2) = some (Value.int IntKind.i64 n_1) ∧
                                              Call Tryd.prog 26 [Value.pointer p1_r, Value.int IntKind.i64 n_1]
                                                w' fun e w' =>
                                                ∃ n_2,
                                                  e = Ending.returned (Value.int IntKind.i64 n_2) ∧
                                                    R (Ending.returned (Value.bool (n == n_2))) w')))) := by kernel_rfl
/-! (*davit/work.Lists).Where -/
def M10 : Mt := { N := 21, keep := [(0, [0, 1]), (1, [0, 1, 9]), (2, [4, 5]), (3, [6, 7]), (4, [4, 5])], ords := [], bk := [], cuts := [], lk := [] }
noncomputable def c10 : Code := bodyOf Tryd.f10
theorem b10 : Tryd.f10.body = some c10 := by kernel_rfl
theorem n10 : Tryd.f10.ntmps = M10.N := by kernel_rfl
theorem u10 {p0_l : Option Addr} {p1_id : Int} {w : World} {R : Ending → World → Prop} (h : den Tryd.prog M10 c10 (argE 0 [(Value.pointer p0_l), (Value.int IntKind.i64 p1_id)]) w (retK Tryd.prog Tryd.f10.results.toList R)) : Calls Tryd.prog 10 #[(Value.pointer p0_l), (Value.int IntKind.i64 p1_id)] w R := calls_den okProg Tryd.func10 b10 n10 (Nat.le_of_ble_eq_true rfl) h
theorem t10 (p0_l : Option Addr) (p1_id : Int) (w : World) (R : Ending → World → Prop) : den Tryd.prog M10 c10 (argE 0 [(Value.pointer p0_l), (Value.int IntKind.i64 p1_id)]) w (retK Tryd.prog Tryd.f10.results.toList R) =
((Option.isNone p0_l = true →
    R (Ending.returned (Value.tuple #[Value.int IntKind.i64 0, Value.bool false])) w) ∧
  (Option.isNone p0_l = false →
    ∃ a,
      p0_l = some a ∧
        ∃ r,
          World.cell? w (Addr.add a 2) = some (Value.map r) ∧
            ∃ n b,
              Sem.run Tryd.prog (Instr.lookup 49 (Value.map r) (Value.int IntKind.i64 p1_id) true) w =
                  Result.ok (Value.tuple #[Value.int IntKind.i64 n, Value.bool b]) w ∧
                R (Ending.returned (Value.tuple #[Value.int IntKind.i64 n, Value.bool b])) w)) := by kernel_rfl
/-! (*davit/davitref17.Lists).Where -/
def M11 : Mt := { N := 34, keep := [(0, [0, 1]), (1, [0, 1, 6]), (2, [0, 1, 6, 13]), (3, [0, 1, 6]), (4, [0, 1, 6, 24]), (5, [6, 32]), (6, [4, 5]), (7, [4, 5]), (8, [4, 5])], ords := [], bk := [(0, []), (1, [0, 1, 6])], cuts := [], lk := [(2, [0, 1, 6])] }
noncomputable def c11 : Code := bodyOf Tryd.f11
noncomputable def c11_0 : Code := c11.sr.sr
noncomputable def c11_1 : Code := c11.sr.sl.sr.sl.sl
def e11_1 (p0_l : Option Addr) (p1_id : Int) (p6_i : Int) : Env := [(0, SV.v (Value.pointer p0_l)), (1, SV.v (Value.int IntKind.i64 p1_id)), (6, SV.v (Value.int IntKind.i64 p6_i))]
def k11_1 (R : Ending → World → Prop) : Cont := blockK 0 [] (seqK (fun E w => cutB (findL M11.cuts (headReg c11_0)) Tryd.prog M11 c11_0 E w (retK Tryd.prog Tryd.f11.results.toList R) fun E => den Tryd.prog M11 c11_0 E w (retK Tryd.prog Tryd.f11.results.toList R)) (retK Tryd.prog Tryd.f11.results.toList R))
theorem b11 : Tryd.f11.body = some c11 := by kernel_rfl
theorem n11 : Tryd.f11.ntmps = M11.N := by kernel_rfl
theorem u11 {p0_l : Option Addr} {p1_id : Int} {w : World} {R : Ending → World → Prop} (h : den Tryd.prog M11 c11 (argE 0 [(Value.pointer p0_l), (Value.int IntKind.i64 p1_id)]) w (retK Tryd.prog Tryd.f11.results.toList R)) : Calls Tryd.prog 11 #[(Value.pointer p0_l), (Value.int IntKind.i64 p1_id)] w R := calls_den okProg Tryd.func11 b11 n11 (Nat.le_of_ble_eq_true rfl) h
theorem t11 (p0_l : Option Addr) (p1_id : Int) (w : World) (R : Ending → World → Prop) : den Tryd.prog M11 c11 (argE 0 [(Value.pointer p0_l), (Value.int IntKind.i64 p1_id)]) w (retK Tryd.prog Tryd.f11.results.toList R) =
(Cut (WP Tryd.prog 34 (Code.loop c11_1) (e11_1 p0_l p1_id (0 : Int)) w (k11_1 R))) := by kernel_rfl
theorem t11_1 (p0_l : Option Addr) (p1_id : Int) (p6_i : Int) (w : World) (B11_1 : Env → World → Prop) (R : Ending → World → Prop) : den Tryd.prog M11 c11_1 (e11_1 p0_l p1_id p6_i) w (loopK B11_1 (k11_1 R)) =
(∃ a,
  p0_l = some a ∧
    ∃ p n c,
      World.cell? w (Addr.add a 0) = some (Value.slice p n c) ∧
        (decide (p6_i < (↑n : Int)) = true →
            ∃ a,
              p0_l = some a ∧
                ∃ p n c,
                  World.cell? w (Addr.add a 0) = some (Value.slice p n c) ∧
                    ((0 : Int) ≤ p6_i ∧ p6_i < (↑n : Int)) ∧
                      ∃ a,
                        p = some a ∧
                          ∃ p n c,
                            World.cell? w (Addr.add a (Int.toNat p6_i * 1)) = some (Value.slice p n c) ∧
                              Call Tryd.prog 27 [Value.slice p n c, Value.int IntKind.i64 p1_id] w fun e w' =>
                                ∃ b,
                                  e = Ending.returned (Value.bool b) ∧
                                    (b = true →
                                        ∃ a,
                                          p0_l = some a ∧
                                            ∃ p n c,
                                              World.cell? w' (Addr.add a 0) = some (Value.slice p n c) ∧
                                                ((p6_i == IntKind.wrap IntKind.i64 ((↑n : Int) - (1 : Int))) = true →
                                                    R
                                                      (Ending.returned
                                                        (Value.tuple
                                                          #[Value.int IntKind.i64 (-1 : Int), Value.bool true]))
                                                      w') ∧
                                                  ((p6_i == IntKind.wrap IntKind.i64 ((↑n : Int) - (1 : Int))) =
                                                      false →
                                                    R
                                                      (Ending.returned
                                                        (Value.tuple #[Value.int IntKind.i64 p6_i, Value.bool true]))
                                                      w')) ∧
                                      (b = false →
                                        B11_1
                                          [(0, SV.v (Value.pointer p0_l)),
                                            (1, SV.v (Value.int IntKind.i64 p1_id)),
                                            (6,
                                              SV.v
                                                (Value.int IntKind.i64 (IntKind.wrap IntKind.i64 (p6_i + (1 : Int)))))]
                                          w')) ∧
          (decide (p6_i < (↑n : Int)) = false →
            R (Ending.returned (Value.tuple #[Value.int IntKind.i64 0, Value.bool false])) w)) := by kernel_rfl
/-! (*davit/work.Lists).Has -/
def M12 : Mt := { N := 14, keep := [(0, [0, 1]), (1, [6]), (2, [4])], ords := [], bk := [], cuts := [], lk := [] }
noncomputable def c12 : Code := bodyOf Tryd.f12
theorem b12 : Tryd.f12.body = some c12 := by kernel_rfl
theorem n12 : Tryd.f12.ntmps = M12.N := by kernel_rfl
theorem u12 {p0_l : Option Addr} {p1_id : Int} {w : World} {R : Ending → World → Prop} (h : den Tryd.prog M12 c12 (argE 0 [(Value.pointer p0_l), (Value.int IntKind.i64 p1_id)]) w (retK Tryd.prog Tryd.f12.results.toList R)) : Calls Tryd.prog 12 #[(Value.pointer p0_l), (Value.int IntKind.i64 p1_id)] w R := calls_den okProg Tryd.func12 b12 n12 (Nat.le_of_ble_eq_true rfl) h
theorem t12 (p0_l : Option Addr) (p1_id : Int) (w : World) (R : Ending → World → Prop) : den Tryd.prog M12 c12 (argE 0 [(Value.pointer p0_l), (Value.int IntKind.i64 p1_id)]) w (retK Tryd.prog Tryd.f12.results.toList R) =
(Call Tryd.prog 10 [Value.pointer p0_l, Value.int IntKind.i64 p1_id] w fun e w' =>
  ∃ n b,
    e = Ending.returned (Value.tuple #[Value.int IntKind.i64 n, Value.bool b]) ∧ R (Ending.returned (Value.bool b)) w') := by kernel_rfl
/-! davit/davitref01.Ints -/
def M13 : Mt := { N := 26, keep := [(0, [0, 1]), (1, [0, 1, 10]), (2, [4]), (3, [0, 1, 5]), (4, [0, 1, 5, 14]), (5, [0, 1, 5]), (6, [0, 1, 5, 25]), (7, [4]), (8, [4])], ords := [(6, [0, 1, 2, 3, 4, 5, 6, 7, 8])], bk := [(0, []), (1, [0, 1, 5])], cuts := [], lk := [(4, [0, 1, 5])] }
noncomputable def c13 : Code := bodyOf Tryd.f13
noncomputable def c13_0 : Code := c13.sr.sr.sr
noncomputable def c13_1 : Code := c13.sr.sr.sl.sr.sl.sl
def e13_1 (p0_a_a : Option Addr) (p0_a_n : Nat) (p0_a_c : Nat) (p1_b_a : Option Addr) (p1_b_n : Nat) (p1_b_c : Nat) (p5_i : Int) : Env := [(0, SV.v (Value.slice p0_a_a p0_a_n p0_a_c)), (1, SV.v (Value.slice p1_b_a p1_b_n p1_b_c)), (5, SV.v (Value.int IntKind.i64 p5_i))]
def k13_1 (R : Ending → World → Prop) : Cont := blockK 0 [] (seqK (fun E w => cutB (findL M13.cuts (headReg c13_0)) Tryd.prog M13 c13_0 E w (retK Tryd.prog Tryd.f13.results.toList R) fun E => den Tryd.prog M13 c13_0 E w (retK Tryd.prog Tryd.f13.results.toList R)) (retK Tryd.prog Tryd.f13.results.toList R))
theorem b13 : Tryd.f13.body = some c13 := by kernel_rfl
theorem n13 : Tryd.f13.ntmps = M13.N := by kernel_rfl
theorem u13 {p0_a_a : Option Addr} {p0_a_n : Nat} {p0_a_c : Nat} {p1_b_a : Option Addr} {p1_b_n : Nat} {p1_b_c : Nat} {w : World} {R : Ending → World → Prop} (h : den Tryd.prog M13 c13 (argE 0 [(Value.slice p0_a_a p0_a_n p0_a_c), (Value.slice p1_b_a p1_b_n p1_b_c)]) w (retK Tryd.prog Tryd.f13.results.toList R)) : Calls Tryd.prog 13 #[(Value.slice p0_a_a p0_a_n p0_a_c), (Value.slice p1_b_a p1_b_n p1_b_c)] w R := calls_den okProg Tryd.func13 b13 n13 (Nat.le_of_ble_eq_true rfl) h
theorem t13 (p0_a_a : Option Addr) (p0_a_n : Nat) (p0_a_c : Nat) (p1_b_a : Option Addr) (p1_b_n : Nat) (p1_b_c : Nat) (w : World) (R : Ending → World → Prop) : den Tryd.prog M13 c13 (argE 0 [(Value.slice p0_a_a p0_a_n p0_a_c), (Value.slice p1_b_a p1_b_n p1_b_c)]) w (retK Tryd.prog Tryd.f13.results.toList R) =
((((↑p0_a_n : Int) != (↑p1_b_n : Int)) = true → R (Ending.returned (Value.bool false)) w) ∧
  (((↑p0_a_n : Int) != (↑p1_b_n : Int)) = false →
    Cut
      (WP Tryd.prog 26 (Code.loop c13_1) (e13_1 p0_a_a p0_a_n p0_a_c p1_b_a p1_b_n p1_b_c (0 : Int)) w
        (k13_1 R)))) := by kernel_rfl
theorem t13_1 (p0_a_a : Option Addr) (p0_a_n : Nat) (p0_a_c : Nat) (p1_b_a : Option Addr) (p1_b_n : Nat) (p1_b_c : Nat) (p5_i : Int) (w : World) (B13_1 : Env → World → Prop) (R : Ending → World → Prop) : den Tryd.prog M13 c13_1 (e13_1 p0_a_a p0_a_n p0_a_c p1_b_a p1_b_n p1_b_c p5_i) w (loopK B13_1 (k13_1 R)) =
((decide (p5_i < (↑p0_a_n : Int)) = true →
    ∀ (w' : World),
      World.heap w' = World.heap w →
        World.os w' = World.os w →
          World.tape w' = World.tape w →
            World.output w' = World.output w →
              ((0 : Int) ≤ p5_i ∧ p5_i < (↑p0_a_n : Int)) ∧
                ∃ a,
                  p0_a_a = some a ∧
                    ∃ n,
                      World.cell? w' (Addr.add a (Int.toNat p5_i * 1)) = some (Value.int IntKind.i64 n) ∧
                        ((0 : Int) ≤ p5_i ∧ p5_i < (↑p1_b_n : Int)) ∧
                          ∃ a,
                            p1_b_a = some a ∧
                              ∃ n_1,
                                World.cell? w' (Addr.add a (Int.toNat p5_i * 1)) =
                                    some (Value.int IntKind.i64 n_1) ∧
                                  ((n != n_1) = true → R (Ending.returned (Value.bool false)) w') ∧
                                    ((n != n_1) = false →
                                      B13_1
                                        [(0, SV.v (Value.slice p0_a_a p0_a_n p0_a_c)),
                                          (1, SV.v (Value.slice p1_b_a p1_b_n p1_b_c)),
                                          (5,
                                            SV.v
                                              (Value.int IntKind.i64 (IntKind.wrap IntKind.i64 (p5_i + (1 : Int)))))]
                                        w')) ∧
  (decide (p5_i < (↑p0_a_n : Int)) = false → R (Ending.returned (Value.bool true)) w)) := by kernel_rfl
/-! (*davit/work.Lists).List -/
def M14 : Mt := { N := 13, keep := [(0, [0, 1]), (1, [0, 1, 8]), (2, [4]), (3, [4])], ords := [], bk := [], cuts := [], lk := [] }
noncomputable def c14 : Code := bodyOf Tryd.f14
theorem b14 : Tryd.f14.body = some c14 := by kernel_rfl
theorem n14 : Tryd.f14.ntmps = M14.N := by kernel_rfl
theorem u14 {p0_l : Option Addr} {p1_cpu : Int} {w : World} {R : Ending → World → Prop} (h : den Tryd.prog M14 c14 (argE 0 [(Value.pointer p0_l), (Value.int IntKind.i64 p1_cpu)]) w (retK Tryd.prog Tryd.f14.results.toList R)) : Calls Tryd.prog 14 #[(Value.pointer p0_l), (Value.int IntKind.i64 p1_cpu)] w R := calls_den okProg Tryd.func14 b14 n14 (Nat.le_of_ble_eq_true rfl) h
theorem t14 (p0_l : Option Addr) (p1_cpu : Int) (w : World) (R : Ending → World → Prop) : den Tryd.prog M14 c14 (argE 0 [(Value.pointer p0_l), (Value.int IntKind.i64 p1_cpu)]) w (retK Tryd.prog Tryd.f14.results.toList R) =
(Call Tryd.prog 28 [Value.pointer p0_l, Value.int IntKind.i64 p1_cpu, Value.int IntKind.i64 (-1 : Int)] w
  fun e w' =>
  ∃ n,
    e = Ending.returned (Value.int IntKind.i64 n) ∧
      ((n != (0 : Int)) = true → R (Ending.returned (Value.slice none 0 0)) w') ∧
        ((n != (0 : Int)) = false →
          Call Tryd.prog 29 [Value.pointer p0_l, Value.int IntKind.i64 p1_cpu] w' fun e w' =>
            ∃ p,
              e = Ending.returned (Value.pointer p) ∧
                Call Tryd.prog 30 [Value.pointer p] w' fun e w' =>
                  ∃ p n c, e = Ending.returned (Value.slice p n c) ∧ R (Ending.returned (Value.slice p n c)) w')) := by kernel_rfl
/-! (*davit/davitref17.Lists).List -/
def M15 : Mt := { N := 24, keep := [(0, [0, 1]), (1, [0, 1, 13]), (2, [4]), (3, [0, 5]), (4, [4])], ords := [], bk := [], cuts := [(3, [0, 1])], lk := [] }
noncomputable def c15 : Code := bodyOf Tryd.f15
noncomputable def c15_0 : Code := c15.sr.sr
def e15_0 (p0_l : Option Addr) (p1_cpu : Int) : Env := [(0, SV.v (Value.pointer p0_l)), (1, SV.v (Value.int IntKind.i64 p1_cpu))]
def k15_0 (R : Ending → World → Prop) : Cont := retK Tryd.prog Tryd.f15.results.toList R
theorem b15 : Tryd.f15.body = some c15 := by kernel_rfl
theorem n15 : Tryd.f15.ntmps = M15.N := by kernel_rfl
theorem u15 {p0_l : Option Addr} {p1_cpu : Int} {w : World} {R : Ending → World → Prop} (h : den Tryd.prog M15 c15 (argE 0 [(Value.pointer p0_l), (Value.int IntKind.i64 p1_cpu)]) w (retK Tryd.prog Tryd.f15.results.toList R)) : Calls Tryd.prog 15 #[(Value.pointer p0_l), (Value.int IntKind.i64 p1_cpu)] w R := calls_den okProg Tryd.func15 b15 n15 (Nat.le_of_ble_eq_true rfl) h
theorem t15 (p0_l : Option Addr) (p1_cpu : Int) (w : World) (R : Ending → World → Prop) : den Tryd.prog M15 c15 (argE 0 [(Value.pointer p0_l), (Value.int IntKind.i64 p1_cpu)]) w (retK Tryd.prog Tryd.f15.results.toList R) =
(Call Tryd.prog 31 [Value.pointer p0_l, Value.int IntKind.i64 p1_cpu] w fun e w' =>
  ∃ b,
    e = Ending.returned (Value.bool b) ∧
      ((!b) = true →
          ((p1_cpu != (-1 : Int)) = true → R (Ending.returned (Value.slice none 0 0)) w') ∧
            ((p1_cpu != (-1 : Int)) = false → CutD Tryd.prog M15 c15_0 (e15_0 p0_l p1_cpu) w' (k15_0 R))) ∧
        ((!b) = false → CutD Tryd.prog M15 c15_0 (e15_0 p0_l p1_cpu) w' (k15_0 R))) := by kernel_rfl
theorem t15_0 (p0_l : Option Addr) (p1_cpu : Int) (w : World) (R : Ending → World → Prop) : den Tryd.prog M15 c15_0 (e15_0 p0_l p1_cpu) w (k15_0 R) =
(Call Tryd.prog 32 [Value.pointer p0_l, Value.int IntKind.i64 p1_cpu] w fun e w' =>
  ∃ n,
    e = Ending.returned (Value.int IntKind.i64 n) ∧
      ∃ a,
        p0_l = some a ∧
          ∃ p n_1 c,
            World.cell? w' (Addr.add a 0) = some (Value.slice p n_1 c) ∧
              ((0 : Int) ≤ n ∧ n < (↑n_1 : Int)) ∧
                ∃ a,
                  p = some a ∧
                    ∃ p n_2 c,
                      World.cell? w' (Addr.add a (Int.toNat n * 1)) = some (Value.slice p n_2 c) ∧
                        R (Ending.returned (Value.slice p n_2 c)) w') := by kernel_rfl
/-! (*davit/work.Lists).Load -/
def M16 : Mt := { N := 9, keep := [(0, [0, 1]), (1, [4])], ords := [], bk := [], cuts := [], lk := [] }
noncomputable def c16 : Code := bodyOf Tryd.f16
theorem b16 : Tryd.f16.body = some c16 := by kernel_rfl
theorem n16 : Tryd.f16.ntmps = M16.N := by kernel_rfl
theorem u16 {p0_l : Option Addr} {p1_cpu : Int} {w : World} {R : Ending → World → Prop} (h : den Tryd.prog M16 c16 (argE 0 [(Value.pointer p0_l), (Value.int IntKind.i64 p1_cpu)]) w (retK Tryd.prog Tryd.f16.results.toList R)) : Calls Tryd.prog 16 #[(Value.pointer p0_l), (Value.int IntKind.i64 p1_cpu)] w R := calls_den okProg Tryd.func16 b16 n16 (Nat.le_of_ble_eq_true rfl) h
theorem t16 (p0_l : Option Addr) (p1_cpu : Int) (w : World) (R : Ending → World → Prop) : den Tryd.prog M16 c16 (argE 0 [(Value.pointer p0_l), (Value.int IntKind.i64 p1_cpu)]) w (retK Tryd.prog Tryd.f16.results.toList R) =
(Call Tryd.prog 14 [Value.pointer p0_l, Value.int IntKind.i64 p1_cpu] w fun e w' =>
  ∃ p n c, e = Ending.returned (Value.slice p n c) ∧ R (Ending.returned (Value.int IntKind.i64 (↑n : Int))) w') := by kernel_rfl
/-! (*davit/work.Lists).Queue -/
def M17 : Mt := { N := 38, keep := [(0, [0, 1]), (1, [0, 1, 6]), (2, [0, 1, 6, 13]), (3, [4, 5]), (4, [0, 1, 7, 8]), (5, [0, 1, 7, 8, 24]), (6, [4, 5]), (7, [0, 1, 7]), (8, [4, 5])], ords := [], bk := [], cuts := [], lk := [] }
noncomputable def c17 : Code := bodyOf Tryd.f17
theorem b17 : Tryd.f17.body = some c17 := by kernel_rfl
theorem n17 : Tryd.f17.ntmps = M17.N := by kernel_rfl
theorem u17 {p0_l : Option Addr} {p1_cpu : Int} {w : World} {R : Ending → World → Prop} (h : den Tryd.prog M17 c17 (argE 0 [(Value.pointer p0_l), (Value.int IntKind.i64 p1_cpu)]) w (retK Tryd.prog Tryd.f17.results.toList R)) : Calls Tryd.prog 17 #[(Value.pointer p0_l), (Value.int IntKind.i64 p1_cpu)] w R := calls_den okProg Tryd.func17 b17 n17 (Nat.le_of_ble_eq_true rfl) h
theorem t17 (p0_l : Option Addr) (p1_cpu : Int) (w : World) (R : Ending → World → Prop) : den Tryd.prog M17 c17 (argE 0 [(Value.pointer p0_l), (Value.int IntKind.i64 p1_cpu)]) w (retK Tryd.prog Tryd.f17.results.toList R) =
(Call Tryd.prog 28 [Value.pointer p0_l, Value.int IntKind.i64 p1_cpu, Value.int IntKind.i64 (-1 : Int)] w
  fun e w' =>
  ∃ n,
    e = Ending.returned (Value.int IntKind.i64 n) ∧
      ((n != (0 : Int)) = true →
          R (Ending.returned (Value.tuple #[Value.int IntKind.i64 0, Value.int IntKind.i64 n])) w') ∧
        ((n != (0 : Int)) = false →
          ∃ a,
            p0_l = some a ∧
              ∃ p,
                World.cell? w' (Addr.add a 0) = some (Value.pointer p) ∧
                  Call Tryd.prog 33 [Value.pointer p] w' fun e w' =>
                    ∃ n n_1,
                      e = Ending.returned (Value.tuple #[Value.int IntKind.i64 n, Value.int IntKind.i64 n_1]) ∧
                        ((n_1 != (0 : Int)) = true →
                            R
                              (Ending.returned
                                (Value.tuple #[Value.int IntKind.i64 0, Value.int IntKind.i64 n_1]))
                              w') ∧
                          ((n_1 != (0 : Int)) = false →
                            ∃ a,
                              p0_l = some a ∧
                                ∃ r,
                                  World.cell? w' (Addr.add a 2) = some (Value.map r) ∧
                                    ∃ w'_1,
                                      Sem.run Tryd.prog
                                            (Instr.mapUpdate 49 (Value.map r) (Value.int IntKind.i64 n)
                                              (Value.int IntKind.i64 p1_cpu))
                                            w' =
                                          Result.ok () w'_1 ∧
                                        Call Tryd.prog 29 [Value.pointer p0_l, Value.int IntKind.i64 p1_cpu]
                                          w'_1 fun e w' =>
                                          ∃ p,
                                            e = Ending.returned (Value.pointer p) ∧
                                              Call Tryd.prog 34 [Value.pointer p, Value.int IntKind.i64 n] w'
                                                fun e w' =>
                                                ∃ n_2,
                                                  e = Ending.returned (Value.int IntKind.i64 n_2) ∧
                                                    R
                                                      (Ending.returned
                                                        (Value.tuple
                                                          #[Value.int IntKind.i64 n, Value.int IntKind.i64 n_2]))
                                                      w'))) := by kernel_rfl
/-! (*davit/work.Lists).Take -/
def M18 : Mt := { N := 38, keep := [(0, [0, 1]), (1, [0, 1, 6]), (2, [0, 1, 6, 15]), (3, [4, 5]), (4, [0, 18, 19, 20]), (5, [0, 18, 19, 20, 21]), (6, [0, 8, 18, 19, 20]), (7, [0, 9, 10, 18, 19, 20]), (8, [0, 9, 18, 19, 20, 32]), (9, [4, 5]), (10, [0, 18, 19, 20]), (11, [4, 5])], ords := [], bk := [(0, []), (1, [0, 18, 19, 20])], cuts := [], lk := [(5, [0, 18, 19, 20])] }
noncomputable def c18 : Code := bodyOf Tryd.f18
noncomputable def c18_0 : Code := c18.sr.sr.sr
noncomputable def c18_1 : Code := c18.sr.sr.sl.sr.sl.sl
def e18_1 (p0_l : Option Addr) (p18_t_a : Option Addr) (p18_t_n : Nat) (p18_t_c : Nat) (p19_t : Int) (p20_t : Int) : Env := [(0, SV.v (Value.pointer p0_l)), (18, SV.v (Value.slice p18_t_a p18_t_n p18_t_c)), (19, SV.v (Value.int IntKind.i64 p19_t)), (20, SV.v (Value.int IntKind.i64 p20_t))]
def k18_1 (R : Ending → World → Prop) : Cont := blockK 0 [] (seqK (fun E w => cutB (findL M18.cuts (headReg c18_0)) Tryd.prog M18 c18_0 E w (retK Tryd.prog Tryd.f18.results.toList R) fun E => den Tryd.prog M18 c18_0 E w (retK Tryd.prog Tryd.f18.results.toList R)) (retK Tryd.prog Tryd.f18.results.toList R))
theorem b18 : Tryd.f18.body = some c18 := by kernel_rfl
theorem n18 : Tryd.f18.ntmps = M18.N := by kernel_rfl
theorem u18 {p0_l : Option Addr} {p1_cpu : Int} {w : World} {R : Ending → World → Prop} (h : den Tryd.prog M18 c18 (argE 0 [(Value.pointer p0_l), (Value.int IntKind.i64 p1_cpu)]) w (retK Tryd.prog Tryd.f18.results.toList R)) : Calls Tryd.prog 18 #[(Value.pointer p0_l), (Value.int IntKind.i64 p1_cpu)] w R := calls_den okProg Tryd.func18 b18 n18 (Nat.le_of_ble_eq_true rfl) h
theorem t18 (p0_l : Option Addr) (p1_cpu : Int) (w : World) (R : Ending → World → Prop) : den Tryd.prog M18 c18 (argE 0 [(Value.pointer p0_l), (Value.int IntKind.i64 p1_cpu)]) w (retK Tryd.prog Tryd.f18.results.toList R) =
(Call Tryd.prog 28 [Value.pointer p0_l, Value.int IntKind.i64 p1_cpu, Value.int IntKind.i64 0] w
  fun e w' =>
  ∃ n,
    e = Ending.returned (Value.int IntKind.i64 n) ∧
      ((n != (0 : Int)) = true →
          R (Ending.returned (Value.tuple #[Value.int IntKind.i64 0, Value.int IntKind.i64 n])) w') ∧
        ((n != (0 : Int)) = false →
          New w' [Value.int IntKind.i64 p1_cpu, Value.int IntKind.i64 (-1 : Int)] 3 fun p w' =>
            Cut
              (WP Tryd.prog 38 (Code.loop c18_1)
                (e18_1 p0_l (some p) 2 2 (↑2 : Int) (0 : Int)) w' (k18_1 R)))) := by kernel_rfl
theorem t18_1 (p0_l : Option Addr) (p18_t_a : Option Addr) (p18_t_n : Nat) (p18_t_c : Nat) (p19_t : Int) (p20_t : Int) (w : World) (B18_1 : Env → World → Prop) (R : Ending → World → Prop) : den Tryd.prog M18 c18_1 (e18_1 p0_l p18_t_a p18_t_n p18_t_c p19_t p20_t) w (loopK B18_1 (k18_1 R)) =
((decide (p20_t < p19_t) = true →
    ((0 : Int) ≤ p20_t ∧ p20_t < (↑p18_t_n : Int)) ∧
      ∃ a,
        p18_t_a = some a ∧
          ∃ n,
            World.cell? w (Addr.add a (Int.toNat p20_t * 1)) = some (Value.int IntKind.i64 n) ∧
              Call Tryd.prog 29 [Value.pointer p0_l, Value.int IntKind.i64 n] w fun e w' =>
                ∃ p,
                  e = Ending.returned (Value.pointer p) ∧
                    Call Tryd.prog 35 [Value.pointer p] w' fun e w' =>
                      ∃ n n_1,
                        e = Ending.returned (Value.tuple #[Value.int IntKind.i64 n, Value.int IntKind.i64 n_1]) ∧
                          ((n_1 == (0 : Int)) = true →
                              Call Tryd.prog 20 [Value.pointer p0_l, Value.int IntKind.i64 n] w' fun e w' =>
                                ∃ n_2,
                                  e = Ending.returned (Value.int IntKind.i64 n_2) ∧
                                    R
                                      (Ending.returned
                                        (Value.tuple #[Value.int IntKind.i64 n, Value.int IntKind.i64 n_2]))
                                      w') ∧
                            ((n_1 == (0 : Int)) = false →
                              B18_1
                                [(0, SV.v (Value.pointer p0_l)),
                                  (18, SV.v (Value.slice p18_t_a p18_t_n p18_t_c)),
                                  (19, SV.v (Value.int IntKind.i64 p19_t)),
                                  (20,
                                    SV.v (Value.int IntKind.i64 (IntKind.wrap IntKind.i64 (p20_t + (1 : Int)))))]
                                w')) ∧
  (decide (p20_t < p19_t) = false →
    R (Ending.returned (Value.tuple #[Value.int IntKind.i64 0, Value.int IntKind.i64 12])) w)) := by kernel_rfl
/-! (*davit/work.Lists).Unbind -/
def M19 : Mt := { N := 35, keep := [(0, [0, 1]), (1, [0, 1, 6]), (2, [0, 1, 6, 13]), (3, [4, 5]), (4, [0, 7, 8]), (5, [0, 7, 8, 23]), (6, [4, 5]), (7, [0, 7]), (8, [4, 5])], ords := [], bk := [], cuts := [], lk := [] }
noncomputable def c19 : Code := bodyOf Tryd.f19
theorem b19 : Tryd.f19.body = some c19 := by kernel_rfl
theorem n19 : Tryd.f19.ntmps = M19.N := by kernel_rfl
theorem u19 {p0_l : Option Addr} {p1_cpu : Int} {w : World} {R : Ending → World → Prop} (h : den Tryd.prog M19 c19 (argE 0 [(Value.pointer p0_l), (Value.int IntKind.i64 p1_cpu)]) w (retK Tryd.prog Tryd.f19.results.toList R)) : Calls Tryd.prog 19 #[(Value.pointer p0_l), (Value.int IntKind.i64 p1_cpu)] w R := calls_den okProg Tryd.func19 b19 n19 (Nat.le_of_ble_eq_true rfl) h
theorem t19 (p0_l : Option Addr) (p1_cpu : Int) (w : World) (R : Ending → World → Prop) : den Tryd.prog M19 c19 (argE 0 [(Value.pointer p0_l), (Value.int IntKind.i64 p1_cpu)]) w (retK Tryd.prog Tryd.f19.results.toList R) =
(Call Tryd.prog 28 [Value.pointer p0_l, Value.int IntKind.i64 p1_cpu, Value.int IntKind.i64 0] w
  fun e w' =>
  ∃ n,
    e = Ending.returned (Value.int IntKind.i64 n) ∧
      ((n != (0 : Int)) = true →
          R (Ending.returned (Value.tuple #[Value.int IntKind.i64 0, Value.int IntKind.i64 n])) w') ∧
        ((n != (0 : Int)) = false →
          Call Tryd.prog 29 [Value.pointer p0_l, Value.int IntKind.i64 p1_cpu] w' fun e w' =>
            ∃ p,
              e = Ending.returned (Value.pointer p) ∧
                Call Tryd.prog 36 [Value.pointer p] w' fun e w' =>
                  ∃ n n_1,
                    e = Ending.returned (Value.tuple #[Value.int IntKind.i64 n, Value.int IntKind.i64 n_1]) ∧
                      ((n_1 != (0 : Int)) = true →
                          R
                            (Ending.returned
                              (Value.tuple #[Value.int IntKind.i64 0, Value.int IntKind.i64 n_1]))
                            w') ∧
                        ((n_1 != (0 : Int)) = false →
                          ∃ a,
                            p0_l = some a ∧
                              ∃ r,
                                World.cell? w' (Addr.add a 2) = some (Value.map r) ∧
                                  ∃ w'_1,
                                    Sem.run Tryd.prog
                                          (Instr.mapUpdate 49 (Value.map r) (Value.int IntKind.i64 n)
                                            (Value.int IntKind.i64 (-1 : Int)))
                                          w' =
                                        Result.ok () w'_1 ∧
                                      Call Tryd.prog 29 [Value.pointer p0_l, Value.int IntKind.i64 (-1 : Int)]
                                        w'_1 fun e w' =>
                                        ∃ p,
                                          e = Ending.returned (Value.pointer p) ∧
                                            Call Tryd.prog 34 [Value.pointer p, Value.int IntKind.i64 n] w'
                                              fun e w' =>
                                              ∃ n_2,
                                                e = Ending.returned (Value.int IntKind.i64 n_2) ∧
                                                  R
                                                    (Ending.returned
                                                      (Value.tuple
                                                        #[Value.int IntKind.i64 n, Value.int IntKind.i64 n_2]))
                                                    w'))) := by kernel_rfl
/-! (*davit/work.Lists).Drop -/
def M20 : Mt := { N := 35, keep := [(0, [0, 1]), (1, [0, 1, 5, 6]), (2, [0, 1, 5, 6, 13]), (3, [4]), (4, [0, 1, 5, 16]), (5, [4]), (6, [0, 1, 5]), (7, [0, 1, 5]), (8, [4])], ords := [], bk := [(0, [0, 1, 5])], cuts := [], lk := [] }
noncomputable def c20 : Code := bodyOf Tryd.f20
theorem b20 : Tryd.f20.body = some c20 := by kernel_rfl
theorem n20 : Tryd.f20.ntmps = M20.N := by kernel_rfl
theorem u20 {p0_l : Option Addr} {p1_id : Int} {w : World} {R : Ending → World → Prop} (h : den Tryd.prog M20 c20 (argE 0 [(Value.pointer p0_l), (Value.int IntKind.i64 p1_id)]) w (retK Tryd.prog Tryd.f20.results.toList R)) : Calls Tryd.prog 20 #[(Value.pointer p0_l), (Value.int IntKind.i64 p1_id)] w R := calls_den okProg Tryd.func20 b20 n20 (Nat.le_of_ble_eq_true rfl) h
theorem t20 (p0_l : Option Addr) (p1_id : Int) (w : World) (R : Ending → World → Prop) : den Tryd.prog M20 c20 (argE 0 [(Value.pointer p0_l), (Value.int IntKind.i64 p1_id)]) w (retK Tryd.prog Tryd.f20.results.toList R) =
(Call Tryd.prog 10 [Value.pointer p0_l, Value.int IntKind.i64 p1_id] w fun e w' =>
  ∃ n b,
    e = Ending.returned (Value.tuple #[Value.int IntKind.i64 n, Value.bool b]) ∧
      (Option.isNone p0_l = true → R (Ending.returned (Value.int IntKind.i64 1)) w') ∧
        (Option.isNone p0_l = false →
          ((!b) = true → R (Ending.returned (Value.int IntKind.i64 4)) w') ∧
            ((!b) = false →
              ∃ a,
                p0_l = some a ∧
                  ∃ r,
                    World.cell? w' (Addr.add a 2) = some (Value.map r) ∧
                      ∃ w'_1,
                        Sem.run Tryd.prog
                              (Builtin.delete_ #[49, 3] 0
                                #[Value.map r, Value.int IntKind.i64 p1_id])
                              w' =
                            Result.ok (Value.tuple #[]) w'_1 ∧
                          ∃ a,
                            p0_l = some a ∧
                              ∃ p,
                                World.cell? w'_1 (Addr.add a 0) = some (Value.pointer p) ∧
                                  Call Tryd.prog 37 [Value.pointer p, Value.int IntKind.i64 p1_id] w'_1
                                    fun e w' =>
                                    ∃ n_1,
                                      e = Ending.returned (Value.int IntKind.i64 n_1) ∧
                                        Call Tryd.prog 29 [Value.pointer p0_l, Value.int IntKind.i64 n] w'
                                          fun e w' =>
                                          ∃ p,
                                            e = Ending.returned (Value.pointer p) ∧
                                              Call Tryd.prog 38 [Value.pointer p, Value.int IntKind.i64 p1_id]
                                                w' fun e w' =>
                                                ∃ n,
                                                  e = Ending.returned (Value.int IntKind.i64 n) ∧
                                                    R (Ending.returned (Value.int IntKind.i64 n)) w'))) := by kernel_rfl
/-! davit/slot.New -/
def M21 : Mt := { N := 18, keep := [(0, [0]), (1, [0, 9]), (2, [2, 3]), (3, [2, 3])], ords := [], bk := [], cuts := [], lk := [] }
noncomputable def c21 : Code := bodyOf Tryd.f21
theorem b21 : Tryd.f21.body = some c21 := by kernel_rfl
theorem n21 : Tryd.f21.ntmps = M21.N := by kernel_rfl
theorem u21 {p0_most : Int} {w : World} {R : Ending → World → Prop} (h : den Tryd.prog M21 c21 (argE 0 [(Value.int IntKind.i64 p0_most)]) w (retK Tryd.prog Tryd.f21.results.toList R)) : Calls Tryd.prog 21 #[(Value.int IntKind.i64 p0_most)] w R := calls_den okProg Tryd.func21 b21 n21 (Nat.le_of_ble_eq_true rfl) h
theorem t21 (p0_most : Int) (w : World) (R : Ending → World → Prop) : den Tryd.prog M21 c21 (argE 0 [(Value.int IntKind.i64 p0_most)]) w (retK Tryd.prog Tryd.f21.results.toList R) =
((decide (p0_most < (1 : Int)) = false →
    (decide (p0_most > (1024 : Int)) = true →
        R (Ending.returned (Value.tuple #[Value.pointer none, Value.int IntKind.i64 2])) w) ∧
      (decide (p0_most > (1024 : Int)) = false →
        (64 : Int) ≠ (0 : Int) ∧
          ∃ p n c w',
            Sem.run Tryd.prog
                  (Instr.makeSlice 64
                    (Value.int IntKind.i64
                      (IntKind.wrap IntKind.i64
                        (Int.tdiv
                          (IntKind.wrap IntKind.i64 (IntKind.wrap IntKind.i64 (p0_most + (64 : Int)) - (1 : Int)))
                          (64 : Int))))
                    (Value.int IntKind.i64
                      (IntKind.wrap IntKind.i64
                        (Int.tdiv
                          (IntKind.wrap IntKind.i64 (IntKind.wrap IntKind.i64 (p0_most + (64 : Int)) - (1 : Int)))
                          (64 : Int)))))
                  w =
                Result.ok (Value.slice p n c) w' ∧
              New w' [Value.slice p n c, Value.int IntKind.i64 p0_most, Value.int IntKind.i64 0] 66
                fun p w' =>
                R (Ending.returned (Value.tuple #[Value.pointer (some p), Value.int IntKind.i64 0])) w')) ∧
  (decide (p0_most < (1 : Int)) = true →
    R (Ending.returned (Value.tuple #[Value.pointer none, Value.int IntKind.i64 2])) w)) := by kernel_rfl
/-! davit/fifo.New -/
def M22 : Mt := { N := 14, keep := [(0, [0]), (1, [0, 9]), (2, [2, 3]), (3, [2, 3])], ords := [], bk := [], cuts := [], lk := [] }
noncomputable def c22 : Code := bodyOf Tryd.f22
theorem b22 : Tryd.f22.body = some c22 := by kernel_rfl
theorem n22 : Tryd.f22.ntmps = M22.N := by kernel_rfl
theorem u22 {p0_most : Int} {w : World} {R : Ending → World → Prop} (h : den Tryd.prog M22 c22 (argE 0 [(Value.int IntKind.i64 p0_most)]) w (retK Tryd.prog Tryd.f22.results.toList R)) : Calls Tryd.prog 22 #[(Value.int IntKind.i64 p0_most)] w R := calls_den okProg Tryd.func22 b22 n22 (Nat.le_of_ble_eq_true rfl) h
theorem t22 (p0_most : Int) (w : World) (R : Ending → World → Prop) : den Tryd.prog M22 c22 (argE 0 [(Value.int IntKind.i64 p0_most)]) w (retK Tryd.prog Tryd.f22.results.toList R) =
((decide (p0_most < (1 : Int)) = false →
    (decide (p0_most > (1024 : Int)) = true →
        R (Ending.returned (Value.tuple #[Value.pointer none, Value.int IntKind.i64 2])) w) ∧
      (decide (p0_most > (1024 : Int)) = false →
        ∃ p n c w',
          Sem.run Tryd.prog
                (Instr.makeSlice 38 (Value.int IntKind.i64 p0_most) (Value.int IntKind.i64 p0_most)) w =
              Result.ok (Value.slice p n c) w' ∧
            New w' [Value.slice p n c, Value.int IntKind.i64 0, Value.int IntKind.i64 0] 68
              fun p w' =>
              R (Ending.returned (Value.tuple #[Value.pointer (some p), Value.int IntKind.i64 0])) w')) ∧
  (decide (p0_most < (1 : Int)) = true →
    R (Ending.returned (Value.tuple #[Value.pointer none, Value.int IntKind.i64 2])) w)) := by kernel_rfl
/-! (*davit/davitref17.Lists).Queue -/
def M23 : Mt := { N := 50, keep := [(0, [0, 1]), (1, [0, 1, 17]), (2, [4, 5]), (3, [0, 1, 6]), (4, [0, 1, 6, 19]), (5, [0, 1, 6]), (6, [0, 1, 6, 8]), (7, [0, 1, 6, 29]), (8, [0, 6, 9]), (9, [6]), (10, [4, 5]), (11, [4, 5])], ords := [(9, [0, 1, 2, 3, 4, 5, 6, 7, 8, 9, 10, 11, 12, 13, 14, 15, 16])], bk := [(0, []), (1, [0, 1, 6])], cuts := [(3, [0, 1])], lk := [(4, [0, 1, 6])] }
noncomputable def c23 : Code := bodyOf Tryd.f23
noncomputable def c23_0 : Code := c23.sr.sr
noncomputable def c23_1 : Code := c23.sr.sr.sr
noncomputable def c23_2 : Code := c23.sr.sr.sl.sr.sl.sl
def e23_0 (p0_l : Option Addr) (p1_cpu : Int) : Env := [(0, SV.v (Value.pointer p0_l)), (1, SV.v (Value.int IntKind.i64 p1_cpu))]
def e23_2 (p0_l : Option Addr) (p1_cpu : Int) (p6_id : Int) : Env := [(0, SV.v (Value.pointer p0_l)), (1, SV.v (Value.int IntKind.i64 p1_cpu)), (6, SV.v (Value.int IntKind.i64 p6_id))]
def k23_0 (R : Ending → World → Prop) : Cont := retK Tryd.prog Tryd.f23.results.toList R
def k23_2 (R : Ending → World → Prop) : Cont := blockK 0 [] (seqK (fun E w => cutB (findL M23.cuts (headReg c23_1)) Tryd.prog M23 c23_1 E w (retK Tryd.prog Tryd.f23.results.toList R) fun E => den Tryd.prog M23 c23_1 E w (retK Tryd.prog Tryd.f23.results.toList R)) (retK Tryd.prog Tryd.f23.results.toList R))
theorem b23 : Tryd.f23.body = some c23 := by kernel_rfl
theorem n23 : Tryd.f23.ntmps = M23.N := by kernel_rfl
theorem u23 {p0_l : Option Addr} {p1_cpu : Int} {w : World} {R : Ending → World → Prop} (h : den Tryd.prog M23 c23 (argE 0 [(Value.pointer p0_l), (Value.int IntKind.i64 p1_cpu)]) w (retK Tryd.prog Tryd.f23.results.toList R)) : Calls Tryd.prog 23 #[(Value.pointer p0_l), (Value.int IntKind.i64 p1_cpu)] w R := calls_den okProg Tryd.func23 b23 n23 (Nat.le_of_ble_eq_true rfl) h
theorem t23 (p0_l : Option Addr) (p1_cpu : Int) (w : World) (R : Ending → World → Prop) : den Tryd.prog M23 c23 (argE 0 [(Value.pointer p0_l), (Value.int IntKind.i64 p1_cpu)]) w (retK Tryd.prog Tryd.f23.results.toList R) =
(Call Tryd.prog 31 [Value.pointer p0_l, Value.int IntKind.i64 p1_cpu] w fun e w' =>
  ∃ b,
    e = Ending.returned (Value.bool b) ∧
      ((!b) = true →
          ((p1_cpu != (-1 : Int)) = true →
              R (Ending.returned (Value.tuple #[Value.int IntKind.i64 0, Value.int IntKind.i64 3]))
                w') ∧
            ((p1_cpu != (-1 : Int)) = false → CutD Tryd.prog M23 c23_0 (e23_0 p0_l p1_cpu) w' (k23_0 R))) ∧
        ((!b) = false → CutD Tryd.prog M23 c23_0 (e23_0 p0_l p1_cpu) w' (k23_0 R))) := by kernel_rfl
theorem t23_0 (p0_l : Option Addr) (p1_cpu : Int) (w : World) (R : Ending → World → Prop) : den Tryd.prog M23 c23_0 (e23_0 p0_l p1_cpu) w (k23_0 R) =
(Cut (WP Tryd.prog 50 (Code.loop c23_2) (e23_2 p0_l p1_cpu (1 : Int)) w (k23_2 R))) := by kernel_rfl
theorem t23_2 (p0_l : Option Addr) (p1_cpu : Int) (p6_id : Int) (w : World) (B23_2 : Env → World → Prop) (R : Ending → World → Prop) : den Tryd.prog M23 c23_2 (e23_2 p0_l p1_cpu p6_id) w (loopK B23_2 (k23_2 R)) =
((decide (p6_id ≤ (32 : Int)) = true →
    Call Tryd.prog 11 [Value.pointer p0_l, Value.int IntKind.i64 p6_id] w fun e w' =>
      ∃ n b,
        e = Ending.returned (Value.tuple #[Value.int IntKind.i64 n, Value.bool b]) ∧
          ((!b) = true →
              Call Tryd.prog 32 [Value.pointer p0_l, Value.int IntKind.i64 p1_cpu] w' fun e w' =>
                ∃ n,
                  e = Ending.returned (Value.int IntKind.i64 n) ∧
                    ∀ (w'_1 : World),
                      World.heap w'_1 = World.heap w' →
                        World.os w'_1 = World.os w' →
                          World.tape w'_1 = World.tape w' →
                            World.output w'_1 = World.output w' →
                              ∃ a,
                                p0_l = some a ∧
                                  ∃ p n_1 c,
                                    World.cell? w'_1 (Addr.add a 0) = some (Value.slice p n_1 c) ∧
                                      ∃ a_1,
                                        p0_l = some a_1 ∧
                                          ∃ p_1 n_2 c_1,
                                            World.cell? w'_1 (Addr.add a_1 0) = some (Value.slice p_1 n_2 c_1) ∧
                                              ((0 : Int) ≤ n ∧ n < (↑n_2 : Int)) ∧
                                                ∃ a_2,
                                                  p_1 = some a_2 ∧
                                                    ∃ p_2 n_3 c_2,
                                                      World.cell? w'_1 (Addr.add a_2 (Int.toNat n * 1)) =
                                                          some (Value.slice p_2 n_3 c_2) ∧
                                                        New w'_1 [Value.int IntKind.i64 p6_id] 3 fun p_3 w' =>
                                                          World.cell? w' (Addr.add a_2 (Int.toNat n * 1)) =
                                                              some (Value.slice p_2 n_3 c_2) ∧
                                                            World.cell? w' (Addr.add a_1 0) =
                                                                some (Value.slice p_1 n_2 c_1) ∧
                                                              World.cell? w' (Addr.add a 0) =
                                                                  some (Value.slice p n_1 c) ∧
                                                                ∃ p_4 n_4 c_3 w'_2,
                                                                  Sem.run Tryd.prog
                                                                        (Builtin.append_ #[38, 38]
                                                                          38
                                                                          #[Value.slice p_2 n_3 c_2,
                                                                            Value.slice (some p_3) 1 1])
                                                                        w' =
                                                                      Result.ok (Value.slice p_4 n_4 c_3) w'_2 ∧
                                                                    World.cell? w'_2 (Addr.add a 0) =
                                                                        some (Value.slice p n_1 c) ∧
                                                                      ((0 : Int) ≤ n ∧ n < (↑n_1 : Int)) ∧
                                                                        ∃ a,
                                                                          p = some a ∧
                                                                            Wr w'_2
                                                                              (Addr.add a (Int.toNat n * 1))
                                                                              [Value.slice p_4 n_4 c_3] fun w' =>
                                                                              R
                                                                                (Ending.returned
                                                                                  (Value.tuple
                                                                                    #[Value.int IntKind.i64 p6_id,
                                                                                      Value.int IntKind.i64 0]))
                                                                                w') ∧
            ((!b) = false →
              B23_2
                [(0, SV.v (Value.pointer p0_l)), (1, SV.v (Value.int IntKind.i64 p1_cpu)),
                  (6, SV.v (Value.int IntKind.i64 (IntKind.wrap IntKind.i64 (p6_id + (1 : Int)))))]
                w')) ∧
  (decide (p6_id ≤ (32 : Int)) = false →
    R (Ending.returned (Value.tuple #[Value.int IntKind.i64 0, Value.int IntKind.i64 5])) w)) := by kernel_rfl
/-! (*davit/davitref17.Lists).Take -/
def M24 : Mt := { N := 50, keep := [(0, [0, 1]), (1, [0, 1, 11]), (2, [4, 5]), (3, [0, 6]), (4, [0, 6, 21]), (5, [0, 6]), (6, [0, 6, 36]), (7, [4, 5]), (8, [0, 7]), (9, [7]), (10, [4, 5])], ords := [], bk := [], cuts := [(6, [0, 6])], lk := [] }
noncomputable def c24 : Code := bodyOf Tryd.f24
noncomputable def c24_0 : Code := c24.sr.sr.sr.sr
def e24_0 (p0_l : Option Addr) (p6_k : Int) : Env := [(0, SV.v (Value.pointer p0_l)), (6, SV.v (Value.int IntKind.i64 p6_k))]
def k24_0 (R : Ending → World → Prop) : Cont := retK Tryd.prog Tryd.f24.results.toList R
theorem b24 : Tryd.f24.body = some c24 := by kernel_rfl
theorem n24 : Tryd.f24.ntmps = M24.N := by kernel_rfl
theorem u24 {p0_l : Option Addr} {p1_cpu : Int} {w : World} {R : Ending → World → Prop} (h : den Tryd.prog M24 c24 (argE 0 [(Value.pointer p0_l), (Value.int IntKind.i64 p1_cpu)]) w (retK Tryd.prog Tryd.f24.results.toList R)) : Calls Tryd.prog 24 #[(Value.pointer p0_l), (Value.int IntKind.i64 p1_cpu)] w R := calls_den okProg Tryd.func24 b24 n24 (Nat.le_of_ble_eq_true rfl) h
theorem t24 (p0_l : Option Addr) (p1_cpu : Int) (w : World) (R : Ending → World → Prop) : den Tryd.prog M24 c24 (argE 0 [(Value.pointer p0_l), (Value.int IntKind.i64 p1_cpu)]) w (retK Tryd.prog Tryd.f24.results.toList R) =
(Call Tryd.prog 31 [Value.pointer p0_l, Value.int IntKind.i64 p1_cpu] w fun e w' =>
  ∃ b,
    e = Ending.returned (Value.bool b) ∧
      ((!b) = true →
          R (Ending.returned (Value.tuple #[Value.int IntKind.i64 0, Value.int IntKind.i64 3])) w') ∧
        ((!b) = false →
          ∃ a,
            p0_l = some a ∧
              ∃ p n c,
                World.cell? w' (Addr.add a 0) = some (Value.slice p n c) ∧
                  ((0 : Int) ≤ p1_cpu ∧ p1_cpu < (↑n : Int)) ∧
                    ∃ a,
                      p = some a ∧
                        ∃ p n c,
                          World.cell? w' (Addr.add a (Int.toNat p1_cpu * 1)) = some (Value.slice p n c) ∧
                            (((↑n : Int) == (0 : Int)) = true →
                                ∃ a,
                                  p0_l = some a ∧
                                    ∃ p n c,
                                      World.cell? w' (Addr.add a 0) = some (Value.slice p n c) ∧
                                        CutD Tryd.prog M24 c24_0
                                          (e24_0 p0_l (IntKind.wrap IntKind.i64 ((↑n : Int) - (1 : Int)))) w'
                                          (k24_0 R)) ∧
                              (((↑n : Int) == (0 : Int)) = false →
                                CutD Tryd.prog M24 c24_0 (e24_0 p0_l p1_cpu) w' (k24_0 R)))) := by kernel_rfl
theorem t24_0 (p0_l : Option Addr) (p6_k : Int) (w : World) (R : Ending → World → Prop) : den Tryd.prog M24 c24_0 (e24_0 p0_l p6_k) w (k24_0 R) =
(∃ a,
  p0_l = some a ∧
    ∃ p n c,
      World.cell? w (Addr.add a 0) = some (Value.slice p n c) ∧
        ((0 : Int) ≤ p6_k ∧ p6_k < (↑n : Int)) ∧
          ∃ a,
            p = some a ∧
              ∃ p n c,
                World.cell? w (Addr.add a (Int.toNat p6_k * 1)) = some (Value.slice p n c) ∧
                  (((↑n : Int) == (0 : Int)) = true →
                      R
                        (Ending.returned
                          (Value.tuple #[Value.int IntKind.i64 0, Value.int IntKind.i64 12]))
                        w) ∧
                    (((↑n : Int) == (0 : Int)) = false →
                      ∃ a,
                        p0_l = some a ∧
                          ∃ p n c,
                            World.cell? w (Addr.add a 0) = some (Value.slice p n c) ∧
                              ((0 : Int) ≤ p6_k ∧ p6_k < (↑n : Int)) ∧
                                ∃ a,
                                  p = some a ∧
                                    ∃ p n c,
                                      World.cell? w (Addr.add a (Int.toNat p6_k * 1)) =
                                          some (Value.slice p n c) ∧
                                        ((0 : Int) ≤ (0 : Int) ∧ (0 : Int) < (↑n : Int)) ∧
                                          ∃ a,
                                            p = some a ∧
                                              ∃ n,
                                                World.cell? w (Addr.add a 0) = some (Value.int IntKind.i64 n) ∧
                                                  Call Tryd.prog 26
                                                    [Value.pointer p0_l, Value.int IntKind.i64 n] w fun e w' =>
                                                    ∃ n_1,
                                                      e = Ending.returned (Value.int IntKind.i64 n_1) ∧
                                                        R
                                                          (Ending.returned
                                                            (Value.tuple
                                                              #[Value.int IntKind.i64 n,
                                                                Value.int IntKind.i64 0]))
                                                          w')) := by kernel_rfl
/-! (*davit/davitref17.Lists).Unbind -/
def M25 : Mt := { N := 56, keep := [(0, [0, 1]), (1, [0, 1, 11]), (2, [4, 5]), (3, [0, 1, 20]), (4, [4, 5]), (5, [0, 6]), (6, [0, 6]), (7, [0, 6, 7]), (8, [6]), (9, [4, 5])], ords := [(8, [0, 1, 2, 3, 4, 5, 6, 7, 8, 9, 10, 11, 12, 13, 14, 15, 16])], bk := [], cuts := [], lk := [] }
noncomputable def c25 : Code := bodyOf Tryd.f25
theorem b25 : Tryd.f25.body = some c25 := by kernel_rfl
theorem n25 : Tryd.f25.ntmps = M25.N := by kernel_rfl
theorem u25 {p0_l : Option Addr} {p1_cpu : Int} {w : World} {R : Ending → World → Prop} (h : den Tryd.prog M25 c25 (argE 0 [(Value.pointer p0_l), (Value.int IntKind.i64 p1_cpu)]) w (retK Tryd.prog Tryd.f25.results.toList R)) : Calls Tryd.prog 25 #[(Value.pointer p0_l), (Value.int IntKind.i64 p1_cpu)] w R := calls_den okProg Tryd.func25 b25 n25 (Nat.le_of_ble_eq_true rfl) h
theorem t25 (p0_l : Option Addr) (p1_cpu : Int) (w : World) (R : Ending → World → Prop) : den Tryd.prog M25 c25 (argE 0 [(Value.pointer p0_l), (Value.int IntKind.i64 p1_cpu)]) w (retK Tryd.prog Tryd.f25.results.toList R) =
(Call Tryd.prog 31 [Value.pointer p0_l, Value.int IntKind.i64 p1_cpu] w fun e w' =>
  ∃ b,
    e = Ending.returned (Value.bool b) ∧
      ((!b) = true →
          R (Ending.returned (Value.tuple #[Value.int IntKind.i64 0, Value.int IntKind.i64 3])) w') ∧
        ((!b) = false →
          ∃ a,
            p0_l = some a ∧
              ∃ p n c,
                World.cell? w' (Addr.add a 0) = some (Value.slice p n c) ∧
                  ((0 : Int) ≤ p1_cpu ∧ p1_cpu < (↑n : Int)) ∧
                    ∃ a,
                      p = some a ∧
                        ∃ p n c,
                          World.cell? w' (Addr.add a (Int.toNat p1_cpu * 1)) = some (Value.slice p n c) ∧
                            (((↑n : Int) == (0 : Int)) = true →
                                R
                                  (Ending.returned
                                    (Value.tuple #[Value.int IntKind.i64 0, Value.int IntKind.i64 12]))
                                  w') ∧
                              (((↑n : Int) == (0 : Int)) = false →
                                ∃ a,
                                  p0_l = some a ∧
                                    ∃ p n c,
                                      World.cell? w' (Addr.add a 0) = some (Value.slice p n c) ∧
                                        ((0 : Int) ≤ p1_cpu ∧ p1_cpu < (↑n : Int)) ∧
                                          ∃ a,
                                            p = some a ∧
                                              ∃ p n c,
                                                World.cell? w' (Addr.add a (Int.toNat p1_cpu * 1)) =
                                                    some (Value.slice p n c) ∧
                                                  ((0 : Int) ≤ (0 : Int) ∧ (0 : Int) < (↑n : Int)) ∧
                                                    ∃ a,
                                                      p = some a ∧
                                                        ∃ n,
                                                          World.cell? w' (Addr.add a 0) =
                                                              some (Value.int IntKind.i64 n) ∧
                                                            Call Tryd.prog 26
                                                              [Value.pointer p0_l, Value.int IntKind.i64 n] w'
                                                              fun e w' =>
                                                              ∃ n_1,
                                                                e = Ending.returned (Value.int IntKind.i64 n_1) ∧
                                                                  ∃ a,
                                                                    p0_l = some a ∧
                                                                      ∃ p n_2 c,
                                                                        World.cell? w' (Addr.add a 0) =
                                                                            some (Value.slice p n_2 c) ∧
                                                                          ∀ (w'_1 : World),
                                                                            World.heap w'_1 = World.heap w' →
                                                                              World.os w'_1 = World.os w' →
                                                                                World.tape w'_1 = World.tape w' →
                                                                                  World.output w'_1 = World.output w' →
                                                                                    ∃ a,
                                                                                      p0_l = some a ∧
                                                                                        ∃ p n_3 c,
                                                                                          World.cell? w'_1
                                                                                                (Addr.add a 0) =
                                                                                              some
                                                                                                (Value.slice p n_3 c) ∧
                                                                                            ∃ a_1,
                                                                                              p0_l = some a_1 ∧
                                                                                                ∃ p_1 n_4 c_1,
                                                                                                  World.cell? w'_1
                                                                                                        (Addr.add a_1
                                                                                                          0) =
                                                                                                      some
                                                                                                        (Value.slice p_1
                                                                                                          n_4 c_1) ∧
                                                                                                    ((0 : Int) ≤
                                                                                                          IntKind.wrap
                                                                                                            IntKind.i64
                                                                                                            ((↑n_2 :
                                                                                                                Int) -
                                                                                                              (1 :
                                                                                                                Int)) ∧
                                                                                                        IntKind.wrap
                                                                                                            IntKind.i64
                                                                                                            ((↑n_2 :
                                                                                                                Int) -
                                                                                                              (1 :
                                                                                                                Int)) <
                                                                                                          (↑n_4 :
                                                                                                            Int)) ∧
                                                                                                      ∃ a_2,
                                                                                                        p_1 = some a_2 ∧
                                                                                                          ∃ p_2 n_5 c_2,
                                                                                                            World.cell?
                                                                                                                  w'_1
                                                                                                                  (Addr.add
                                                                                                                    a_2
                                                                                                                    (Int.toNat
                                                                                                                        (IntKind.wrap
                                                                                                                          IntKind.i64
                                                                                                                          ((↑n_2 :
                                                                                                                              Int) -
                                                                                                                            (1 :
                                                                                                                              Int))) *
                                                                                                                      1)) =
                                                                                                                some
                                                                                                                  (Value.slice
                                                                                                                    p_2
                                                                                                                    n_5
                                                                                                                    c_2) ∧
                                                                                                              New w'_1
                                                                                                                [Value.int
                                                                                                                    IntKind.i64
                                                                                                                    n]
                                                                                                                3
                                                                                                                fun p_3
                                                                                                                  w' =>
                                                                                                                World.cell?
                                                                                                                      w'
                                                                                                                      (Addr.add
                                                                                                                        a_2
                                                                                                                        (Int.toNat
                                                                                                                            (IntKind.wrap
                                                                                                                              IntKind.i64
                                                                                                                              ((↑n_2 :
                                                                                                                                  Int) -
                                                                                                                                (1 :
                                                                                                                                  Int))) *
                                                                                                                          1)) =
                                                                                                                    some
                                                                                                                      (Value.slice
                                                                                                                        p_2
                                                                                                                        n_5
                                                                                                                        c_2) ∧
                                                                                                                  World.cell?
                                                                                                                        w'
                                                                                                                        (Addr.add
                                                                                                                          a_1
                                                                                                                          0) =
                                                                                                                      some
                                                                                                                        (Value.slice
                                                                                                                          p_1
                                                                                                                          n_4
                                                                                                                          c_1) ∧
                                                                                                                    World.cell?
                                                                                                                          w'
                                                                                                                          (Addr.add
                                                                                                                            a
                                                                                                                            0) =
                                                                                                                        some
                                                                                                                          (Value.slice
                                                                                                                            p
                                                                                                                            n_3
                                                                                                                            c) ∧
                                                                                                                      ∃
                                                                                                                        p_4
                                                                                                                        n_6
                                                                                                                        c_3
                                                                                                                        w'_2,
                                                                                                                        Sem.run
                                                                                                                              Tryd.prog
                                                                                                                              (Builtin.append_
                                                                                                                                #[38,
                                                                                                                                  38]
                                                                                                                                38
                                                                                                                                #[Value.slice
                                                                                                                                    p_2
                                                                                                                                    n_5
                                                                                                                                    c_2,
                                                                                                                                  Value.slice
                                                                                                                                    (some
                                                                                                                                      p_3)
                                                                                                                                    1
                                                                                                                                    1])
                                                                                                                              w' =
                                                                                                                            Result.ok
                                                                                                                              (Value.slice
                                                                                                                                p_4
                                                                                                                                n_6
                                                                                                                                c_3)
                                                                                                                              w'_2 ∧
                                                                                                                          World.cell?
                                                                                                                                w'_2
                                                                                                                                (Addr.add
                                                                                                                                  a
                                                                                                                                  0) =
                                                                                                                              some
                                                                                                                                (Value.slice
                                                                                                                                  p
                                                                                                                                  n_3
                                                                                                                                  c) ∧
                                                                                                                            ((0 :
                                                                                                                                    Int) ≤
                                                                                                                                  IntKind.wrap
                                                                                                                                    IntKind.i64
                                                                                                                                    ((↑n_2 :
                                                                                                                                        Int) -
                                                                                                                                      (1 :
                                                                                                                                        Int)) ∧
                                                                                                                                IntKind.wrap
                                                                                                                                    IntKind.i64
                                                                                                                                    ((↑n_2 :
                                                                                                                                        Int) -
                                                                                                                                      (1 :
                                                                                                                                        Int)) <
                                                                                                                                  (↑n_3 :
                                                                                                                                    Int)) ∧
                                                                                                                              ∃
                                                                                                                                a,
                                                                                                                                p =
                                                                                                                                    some
                                                                                                                                      a ∧
                                                                                                                                  Wr
                                                                                                                                    w'_2
                                                                                                                                    (Addr.add
                                                                                                                                      a
                                                                                                                                      (Int.toNat
                                                                                                                                          (IntKind.wrap
                                                                                                                                            IntKind.i64
                                                                                                                                            ((↑n_2 :
                                                                                                                                                Int) -
                                                                                                                                              (1 :
                                                                                                                                                Int))) *
                                                                                                                                        1))
                                                                                                                                    [Value.slice
                                                                                                                                        p_4
                                                                                                                                        n_6
                                                                                                                                        c_3]
                                                                                                                                    fun
                                                                                                                                      w' =>
                                                                                                                                    R
                                                                                                                                      (Ending.returned
                                                                                                                                        (Value.tuple
                                                                                                                                          #[Value.int
                                                                                                                                              IntKind.i64
                                                                                                                                              n,
                                                                                                                                            Value.int
                                                                                                                                              IntKind.i64
                                                                                                                                              (0 :
                                                                                                                                                Int)]))
                                                                                                                                      w'))) := by kernel_rfl
/-! (*davit/davitref17.Lists).Drop -/
def M26 : Mt := { N := 34, keep := [(0, [0, 1]), (1, [0, 1, 5, 6]), (2, [0, 1, 5, 15]), (3, [4]), (4, [0, 1, 7]), (5, []), (6, [4])], ords := [(5, [0, 1, 2, 3, 4, 5, 6, 7, 8, 9, 10, 11, 12, 13, 14, 15])], bk := [], cuts := [], lk := [] }
noncomputable def c26 : Code := bodyOf Tryd.f26
theorem b26 : Tryd.f26.body = some c26 := by kernel_rfl
theorem n26 : Tryd.f26.ntmps = M26.N := by kernel_rfl
theorem u26 {p0_l : Option Addr} {p1_id : Int} {w : World} {R : Ending → World → Prop} (h : den Tryd.prog M26 c26 (argE 0 [(Value.pointer p0_l), (Value.int IntKind.i64 p1_id)]) w (retK Tryd.prog Tryd.f26.results.toList R)) : Calls Tryd.prog 26 #[(Value.pointer p0_l), (Value.int IntKind.i64 p1_id)] w R := calls_den okProg Tryd.func26 b26 n26 (Nat.le_of_ble_eq_true rfl) h
theorem t26 (p0_l : Option Addr) (p1_id : Int) (w : World) (R : Ending → World → Prop) : den Tryd.prog M26 c26 (argE 0 [(Value.pointer p0_l), (Value.int IntKind.i64 p1_id)]) w (retK Tryd.prog Tryd.f26.results.toList R) =
(Call Tryd.prog 11 [Value.pointer p0_l, Value.int IntKind.i64 p1_id] w fun e w' =>
  ∃ n b,
    e = Ending.returned (Value.tuple #[Value.int IntKind.i64 n, Value.bool b]) ∧
      ((!b) = true → R (Ending.returned (Value.int IntKind.i64 4)) w') ∧
        ((!b) = false →
          Call Tryd.prog 32 [Value.pointer p0_l, Value.int IntKind.i64 n] w' fun e w' =>
            ∃ n,
              e = Ending.returned (Value.int IntKind.i64 n) ∧
                ∀ (w'_1 : World),
                  World.heap w'_1 = World.heap w' →
                    World.os w'_1 = World.os w' →
                      World.tape w'_1 = World.tape w' →
                        World.output w'_1 = World.output w' →
                          ∃ a,
                            p0_l = some a ∧
                              ∃ p n_1 c,
                                World.cell? w'_1 (Addr.add a 0) = some (Value.slice p n_1 c) ∧
                                  ∃ a_1,
                                    p0_l = some a_1 ∧
                                      ∃ p_1 n_2 c_1,
                                        World.cell? w'_1 (Addr.add a_1 0) = some (Value.slice p_1 n_2 c_1) ∧
                                          ((0 : Int) ≤ n ∧ n < (↑n_2 : Int)) ∧
                                            ∃ a_2,
                                              p_1 = some a_2 ∧
                                                ∃ p_2 n_3 c_2,
                                                  World.cell? w'_1 (Addr.add a_2 (Int.toNat n * 1)) =
                                                      some (Value.slice p_2 n_3 c_2) ∧
                                                    Call Tryd.prog 39
                                                      [Value.slice p_2 n_3 c_2, Value.int IntKind.i64 p1_id] w'_1
                                                      fun e w' =>
                                                      ∃ p_3 n_4 c_3,
                                                        e = Ending.returned (Value.slice p_3 n_4 c_3) ∧
                                                          World.cell? w' (Addr.add a 0) =
                                                              some (Value.slice p n_1 c) ∧
                                                            ((0 : Int) ≤ n ∧ n < (↑n_1 : Int)) ∧
                                                              ∃ a,
                                                                p = some a ∧
                                                                  Wr w' (Addr.add a (Int.toNat n * 1))
                                                                    [Value.slice p_3 n_4 c_3] fun w' =>
                                                                    R
                                                                      (Ending.returned
                                                                        (Value.int IntKind.i64 0))
                                                                      w')) := by kernel_rfl
/-! davit/davitref03.Has -/
def M27 : Mt := { N := 18, keep := [(0, [0, 1]), (1, [0, 1, 5]), (2, [0, 1, 5, 9]), (3, [0, 1, 5]), (4, [0, 1, 5, 17]), (5, [4]), (6, [4])], ords := [], bk := [(0, []), (1, [0, 1, 5])], cuts := [], lk := [(2, [0, 1, 5])] }
noncomputable def c27 : Code := bodyOf Tryd.f27
noncomputable def c27_0 : Code := c27.sr.sr
noncomputable def c27_1 : Code := c27.sr.sl.sr.sl.sl
def e27_1 (p0_l_a : Option Addr) (p0_l_n : Nat) (p0_l_c : Nat) (p1_n : Int) (p5_i : Int) : Env := [(0, SV.v (Value.slice p0_l_a p0_l_n p0_l_c)), (1, SV.v (Value.int IntKind.i64 p1_n)), (5, SV.v (Value.int IntKind.i64 p5_i))]
def k27_1 (R : Ending → World → Prop) : Cont := blockK 0 [] (seqK (fun E w => cutB (findL M27.cuts (headReg c27_0)) Tryd.prog M27 c27_0 E w (retK Tryd.prog Tryd.f27.results.toList R) fun E => den Tryd.prog M27 c27_0 E w (retK Tryd.prog Tryd.f27.results.toList R)) (retK Tryd.prog Tryd.f27.results.toList R))
theorem b27 : Tryd.f27.body = some c27 := by kernel_rfl
theorem n27 : Tryd.f27.ntmps = M27.N := by kernel_rfl
theorem u27 {p0_l_a : Option Addr} {p0_l_n : Nat} {p0_l_c : Nat} {p1_n : Int} {w : World} {R : Ending → World → Prop} (h : den Tryd.prog M27 c27 (argE 0 [(Value.slice p0_l_a p0_l_n p0_l_c), (Value.int IntKind.i64 p1_n)]) w (retK Tryd.prog Tryd.f27.results.toList R)) : Calls Tryd.prog 27 #[(Value.slice p0_l_a p0_l_n p0_l_c), (Value.int IntKind.i64 p1_n)] w R := calls_den okProg Tryd.func27 b27 n27 (Nat.le_of_ble_eq_true rfl) h
theorem t27 (p0_l_a : Option Addr) (p0_l_n : Nat) (p0_l_c : Nat) (p1_n : Int) (w : World) (R : Ending → World → Prop) : den Tryd.prog M27 c27 (argE 0 [(Value.slice p0_l_a p0_l_n p0_l_c), (Value.int IntKind.i64 p1_n)]) w (retK Tryd.prog Tryd.f27.results.toList R) =
(Cut (WP Tryd.prog 18 (Code.loop c27_1) (e27_1 p0_l_a p0_l_n p0_l_c p1_n (0 : Int)) w (k27_1 R))) := by kernel_rfl
theorem t27_1 (p0_l_a : Option Addr) (p0_l_n : Nat) (p0_l_c : Nat) (p1_n : Int) (p5_i : Int) (w : World) (B27_1 : Env → World → Prop) (R : Ending → World → Prop) : den Tryd.prog M27 c27_1 (e27_1 p0_l_a p0_l_n p0_l_c p1_n p5_i) w (loopK B27_1 (k27_1 R)) =
((decide (p5_i < (↑p0_l_n : Int)) = true →
    ((0 : Int) ≤ p5_i ∧ p5_i < (↑p0_l_n : Int)) ∧
      ∃ a,
        p0_l_a = some a ∧
          ∃ n,
            World.cell? w (Addr.add a (Int.toNat p5_i * 1)) = some (Value.int IntKind.i64 n) ∧
              ((n == p1_n) = true → R (Ending.returned (Value.bool true)) w) ∧
                ((n == p1_n) = false →
                  B27_1
                    [(0, SV.v (Value.slice p0_l_a p0_l_n p0_l_c)),
                      (1, SV.v (Value.int IntKind.i64 p1_n)),
                      (5, SV.v (Value.int IntKind.i64 (IntKind.wrap IntKind.i64 (p5_i + (1 : Int)))))]
                    w)) ∧
  (decide (p5_i < (↑p0_l_n : Int)) = false → R (Ending.returned (Value.bool false)) w)) := by kernel_rfl
/-! (*davit/work.Lists).may -/
def M28 : Mt := { N := 24, keep := [(0, [0, 1, 2]), (1, [0, 1, 2, 7]), (2, [6]), (3, [10]), (4, [6]), (5, [6])], ords := [], bk := [(0, [])], cuts := [], lk := [] }
noncomputable def c28 : Code := bodyOf Tryd.f28
theorem b28 : Tryd.f28.body = some c28 := by kernel_rfl
theorem n28 : Tryd.f28.ntmps = M28.N := by kernel_rfl
theorem u28 {p0_l : Option Addr} {p1_cpu : Int} {p2_from : Int} {w : World} {R : Ending → World → Prop} (h : den Tryd.prog M28 c28 (argE 0 [(Value.pointer p0_l), (Value.int IntKind.i64 p1_cpu), (Value.int IntKind.i64 p2_from)]) w (retK Tryd.prog Tryd.f28.results.toList R)) : Calls Tryd.prog 28 #[(Value.pointer p0_l), (Value.int IntKind.i64 p1_cpu), (Value.int IntKind.i64 p2_from)] w R := calls_den okProg Tryd.func28 b28 n28 (Nat.le_of_ble_eq_true rfl) h
theorem t28 (p0_l : Option Addr) (p1_cpu : Int) (p2_from : Int) (w : World) (R : Ending → World → Prop) : den Tryd.prog M28 c28 (argE 0 [(Value.pointer p0_l), (Value.int IntKind.i64 p1_cpu), (Value.int IntKind.i64 p2_from)]) w (retK Tryd.prog Tryd.f28.results.toList R) =
((Option.isNone p0_l = true → R (Ending.returned (Value.int IntKind.i64 1)) w) ∧
  (Option.isNone p0_l = false →
    (decide (p1_cpu < p2_from) = false →
        ∃ a,
          p0_l = some a ∧
            ∃ p n c,
              World.cell? w (Addr.add a 1) = some (Value.slice p n c) ∧
                (decide (p1_cpu ≥ IntKind.wrap IntKind.i64 ((↑n : Int) - (1 : Int))) = true →
                    R (Ending.returned (Value.int IntKind.i64 3)) w) ∧
                  (decide (p1_cpu ≥ IntKind.wrap IntKind.i64 ((↑n : Int) - (1 : Int))) = false →
                    R (Ending.returned (Value.int IntKind.i64 0)) w)) ∧
      (decide (p1_cpu < p2_from) = true → R (Ending.returned (Value.int IntKind.i64 3)) w))) := by kernel_rfl
/-! (*davit/work.Lists).list -/
def M29 : Mt := { N := 13, keep := [(0, [0, 1]), (1, [4])], ords := [], bk := [], cuts := [], lk := [] }
noncomputable def c29 : Code := bodyOf Tryd.f29
theorem b29 : Tryd.f29.body = some c29 := by kernel_rfl
theorem n29 : Tryd.f29.ntmps = M29.N := by kernel_rfl
theorem u29 {p0_l : Option Addr} {p1_cpu : Int} {w : World} {R : Ending → World → Prop} (h : den Tryd.prog M29 c29 (argE 0 [(Value.pointer p0_l), (Value.int IntKind.i64 p1_cpu)]) w (retK Tryd.prog Tryd.f29.results.toList R)) : Calls Tryd.prog 29 #[(Value.pointer p0_l), (Value.int IntKind.i64 p1_cpu)] w R := calls_den okProg Tryd.func29 b29 n29 (Nat.le_of_ble_eq_true rfl) h
theorem t29 (p0_l : Option Addr) (p1_cpu : Int) (w : World) (R : Ending → World → Prop) : den Tryd.prog M29 c29 (argE 0 [(Value.pointer p0_l), (Value.int IntKind.i64 p1_cpu)]) w (retK Tryd.prog Tryd.f29.results.toList R) =
(∃ a,
  p0_l = some a ∧
    ∃ p n c,
      World.cell? w (Addr.add a 1) = some (Value.slice p n c) ∧
        ((0 : Int) ≤ IntKind.wrap IntKind.i64 (p1_cpu - (-1 : Int)) ∧
            IntKind.wrap IntKind.i64 (p1_cpu - (-1 : Int)) < (↑n : Int)) ∧
          ∃ a,
            p = some a ∧
              ∃ p,
                World.cell? w (Addr.add a (Int.toNat (IntKind.wrap IntKind.i64 (p1_cpu - (-1 : Int))) * 1)) =
                    some (Value.pointer p) ∧
                  R (Ending.returned (Value.pointer p)) w) := by kernel_rfl
/-! (*davit/fifo.Queue).List -/
def M30 : Mt := { N := 39, keep := [(0, [0]), (1, [0, 13]), (2, [2]), (3, [0, 3]), (4, [0, 3, 4]), (5, [3]), (6, [2])], ords := [(4, [0, 1, 2, 3, 4, 5, 6, 7, 8, 9, 10, 11]), (5, [0, 1, 2, 3, 4, 5, 6, 7])], bk := [], cuts := [], lk := [] }
noncomputable def c30 : Code := bodyOf Tryd.f30
theorem b30 : Tryd.f30.body = some c30 := by kernel_rfl
theorem n30 : Tryd.f30.ntmps = M30.N := by kernel_rfl
theorem u30 {p0_q : Option Addr} {w : World} {R : Ending → World → Prop} (h : den Tryd.prog M30 c30 (argE 0 [(Value.pointer p0_q)]) w (retK Tryd.prog Tryd.f30.results.toList R)) : Calls Tryd.prog 30 #[(Value.pointer p0_q)] w R := calls_den okProg Tryd.func30 b30 n30 (Nat.le_of_ble_eq_true rfl) h
theorem t30 (p0_q : Option Addr) (w : World) (R : Ending → World → Prop) : den Tryd.prog M30 c30 (argE 0 [(Value.pointer p0_q)]) w (retK Tryd.prog Tryd.f30.results.toList R) =
((Option.isNone p0_q = false →
    ∃ a,
      p0_q = some a ∧
        ∃ n,
          World.cell? w (Addr.add a 2) = some (Value.int IntKind.i64 n) ∧
            ((n == (0 : Int)) = true → R (Ending.returned (Value.slice none 0 0)) w) ∧
              ((n == (0 : Int)) = false →
                ∃ a,
                  p0_q = some a ∧
                    ∃ n,
                      World.cell? w (Addr.add a 2) = some (Value.int IntKind.i64 n) ∧
                        ∃ p n_1 c w',
                          Sem.run Tryd.prog
                                (Instr.makeSlice 38 (Value.int IntKind.i64 n) (Value.int IntKind.i64 n)) w =
                              Result.ok (Value.slice p n_1 c) w' ∧
                            ∀ (w'_1 : World),
                              World.heap w'_1 = World.heap w' →
                                World.os w'_1 = World.os w' →
                                  World.tape w'_1 = World.tape w' →
                                    World.output w'_1 = World.output w' →
                                      ∃ a,
                                        p0_q = some a ∧
                                          ∃ p_1 n c_1,
                                            World.cell? w'_1 (Addr.add a 0) = some (Value.slice p_1 n c_1) ∧
                                              ∃ a,
                                                p0_q = some a ∧
                                                  ∃ n_2,
                                                    World.cell? w'_1 (Addr.add a 1) =
                                                        some (Value.int IntKind.i64 n_2) ∧
                                                      ((0 : Int) ≤ n_2 ∧ n_2 ≤ (↑n : Int)) ∧
                                                        ∃ n_3 w',
                                                          Sem.run Tryd.prog
                                                                (Builtin.copy_ #[38, 38] 3
                                                                  #[Value.slice p n_1 c,
                                                                    Value.slice (subA p_1 c_1 (Int.toNat n_2) 1)
                                                                      (n - Int.toNat n_2) (c_1 - Int.toNat n_2)])
                                                                w'_1 =
                                                              Result.ok (Value.int IntKind.i64 n_3) w' ∧
                                                            ∀ (w'_2 : World),
                                                              World.heap w'_2 = World.heap w' →
                                                                World.os w'_2 = World.os w' →
                                                                  World.tape w'_2 = World.tape w' →
                                                                    World.output w'_2 = World.output w' →
                                                                      ((0 : Int) ≤ n_3 ∧ n_3 ≤ (↑n_1 : Int)) ∧
                                                                        ∃ a,
                                                                          p0_q = some a ∧
                                                                            ∃ p_2 n c_2,
                                                                              World.cell? w'_2 (Addr.add a 0) =
                                                                                  some (Value.slice p_2 n c_2) ∧
                                                                                ∃ n_4 w',
                                                                                  Sem.run Tryd.prog
                                                                                        (Builtin.copy_
                                                                                          #[38, 38]
                                                                                          3
                                                                                          #[Value.slice
                                                                                              (subA p c (Int.toNat n_3)
                                                                                                1)
                                                                                              (n_1 - Int.toNat n_3)
                                                                                              (c - Int.toNat n_3),
                                                                                            Value.slice p_2 n c_2])
                                                                                        w'_2 =
                                                                                      Result.ok
                                                                                        (Value.int IntKind.i64 n_4) w' ∧
                                                                                    R
                                                                                      (Ending.returned
                                                                                        (Value.slice p n_1 c))
                                                                                      w')) ∧
  (Option.isNone p0_q = true → R (Ending.returned (Value.slice none 0 0)) w)) := by kernel_rfl
/-! (*davit/davitref17.Lists).Is -/
def M31 : Mt := { N := 17, keep := [(0, [0, 1]), (1, [4])], ords := [], bk := [], cuts := [], lk := [] }
noncomputable def c31 : Code := bodyOf Tryd.f31
theorem b31 : Tryd.f31.body = some c31 := by kernel_rfl
theorem n31 : Tryd.f31.ntmps = M31.N := by kernel_rfl
theorem u31 {p0_l : Option Addr} {p1_cpu : Int} {w : World} {R : Ending → World → Prop} (h : den Tryd.prog M31 c31 (argE 0 [(Value.pointer p0_l), (Value.int IntKind.i64 p1_cpu)]) w (retK Tryd.prog Tryd.f31.results.toList R)) : Calls Tryd.prog 31 #[(Value.pointer p0_l), (Value.int IntKind.i64 p1_cpu)] w R := calls_den okProg Tryd.func31 b31 n31 (Nat.le_of_ble_eq_true rfl) h
theorem t31 (p0_l : Option Addr) (p1_cpu : Int) (w : World) (R : Ending → World → Prop) : den Tryd.prog M31 c31 (argE 0 [(Value.pointer p0_l), (Value.int IntKind.i64 p1_cpu)]) w (retK Tryd.prog Tryd.f31.results.toList R) =
((decide (p1_cpu ≥ (0 : Int)) = true →
    ∃ a,
      p0_l = some a ∧
        ∃ p n c,
          World.cell? w (Addr.add a 0) = some (Value.slice p n c) ∧
            R (Ending.returned (Value.bool (decide (p1_cpu < IntKind.wrap IntKind.i64 ((↑n : Int) - (1 : Int))))))
              w) ∧
  (decide (p1_cpu ≥ (0 : Int)) = false → R (Ending.returned (Value.bool false)) w)) := by kernel_rfl
/-! (*davit/davitref17.Lists).at -/
def M32 : Mt := { N := 14, keep := [(0, [0, 1]), (1, [0, 1, 6]), (2, [4]), (3, [4])], ords := [], bk := [], cuts := [], lk := [] }
noncomputable def c32 : Code := bodyOf Tryd.f32
theorem b32 : Tryd.f32.body = some c32 := by kernel_rfl
theorem n32 : Tryd.f32.ntmps = M32.N := by kernel_rfl
theorem u32 {p0_l : Option Addr} {p1_cpu : Int} {w : World} {R : Ending → World → Prop} (h : den Tryd.prog M32 c32 (argE 0 [(Value.pointer p0_l), (Value.int IntKind.i64 p1_cpu)]) w (retK Tryd.prog Tryd.f32.results.toList R)) : Calls Tryd.prog 32 #[(Value.pointer p0_l), (Value.int IntKind.i64 p1_cpu)] w R := calls_den okProg Tryd.func32 b32 n32 (Nat.le_of_ble_eq_true rfl) h
theorem t32 (p0_l : Option Addr) (p1_cpu : Int) (w : World) (R : Ending → World → Prop) : den Tryd.prog M32 c32 (argE 0 [(Value.pointer p0_l), (Value.int IntKind.i64 p1_cpu)]) w (retK Tryd.prog Tryd.f32.results.toList R) =
(((p1_cpu == (-1 : Int)) = true →
    ∃ a,
      p0_l = some a ∧
        ∃ p n c,
          World.cell? w (Addr.add a 0) = some (Value.slice p n c) ∧
            R (Ending.returned (Value.int IntKind.i64 (IntKind.wrap IntKind.i64 ((↑n : Int) - (1 : Int))))) w) ∧
  ((p1_cpu == (-1 : Int)) = false → R (Ending.returned (Value.int IntKind.i64 p1_cpu)) w)) := by kernel_rfl
/-! (*davit/slot.Table).Take -/
def M33 : Mt := { N := 59, keep := [(0, [0]), (1, [0, 7]), (2, [2, 3]), (3, [0, 10]), (4, [2, 3]), (5, [0, 23, 24, 25]), (6, [0, 23, 24, 25, 26]), (7, [0, 4, 5, 23, 24, 25]), (8, [0, 4, 6, 23, 24, 25]), (9, [0, 4, 6, 23, 24, 25, 34]), (10, [0, 4, 6]), (11, [4, 6]), (12, [2, 3]), (13, [0, 23, 24, 25]), (14, [2, 3])], ords := [(3, [0, 1, 2, 3, 4, 5, 6, 7, 8, 9]), (10, [0, 1, 2, 3, 4, 5, 6, 7, 8, 9, 10, 11])], bk := [(0, [0]), (1, []), (2, [0, 23, 24, 25])], cuts := [], lk := [(6, [0, 23, 24, 25])] }
noncomputable def c33 : Code := bodyOf Tryd.f33
noncomputable def c33_0 : Code := c33.sr.sr.sr
noncomputable def c33_1 : Code := c33.sr.sr.sl.sr.sl.sl
def e33_1 (p0_t : Option Addr) (p23_t_a : Option Addr) (p23_t_n : Nat) (p23_t_c : Nat) (p24_t : Int) (p25_t : Int) : Env := [(0, SV.v (Value.pointer p0_t)), (23, SV.v (Value.slice p23_t_a p23_t_n p23_t_c)), (24, SV.v (Value.int IntKind.i64 p24_t)), (25, SV.v (Value.int IntKind.i64 p25_t))]
def k33_1 (R : Ending → World → Prop) : Cont := blockK 1 [] (seqK (fun E w => cutB (findL M33.cuts (headReg c33_0)) Tryd.prog M33 c33_0 E w (retK Tryd.prog Tryd.f33.results.toList R) fun E => den Tryd.prog M33 c33_0 E w (retK Tryd.prog Tryd.f33.results.toList R)) (retK Tryd.prog Tryd.f33.results.toList R))
theorem b33 : Tryd.f33.body = some c33 := by kernel_rfl
theorem n33 : Tryd.f33.ntmps = M33.N := by kernel_rfl
theorem u33 {p0_t : Option Addr} {w : World} {R : Ending → World → Prop} (h : den Tryd.prog M33 c33 (argE 0 [(Value.pointer p0_t)]) w (retK Tryd.prog Tryd.f33.results.toList R)) : Calls Tryd.prog 33 #[(Value.pointer p0_t)] w R := calls_den okProg Tryd.func33 b33 n33 (Nat.le_of_ble_eq_true rfl) h
theorem t33 (p0_t : Option Addr) (w : World) (R : Ending → World → Prop) : den Tryd.prog M33 c33 (argE 0 [(Value.pointer p0_t)]) w (retK Tryd.prog Tryd.f33.results.toList R) =
((Option.isNone p0_t = true →
    R (Ending.returned (Value.tuple #[Value.int IntKind.i64 0, Value.int IntKind.i64 1])) w) ∧
  (Option.isNone p0_t = false →
    ∀ (w' : World),
      World.heap w' = World.heap w →
        World.os w' = World.os w →
          World.tape w' = World.tape w →
            World.output w' = World.output w →
              ∃ a,
                p0_t = some a ∧
                  ∃ n,
                    World.cell? w' (Addr.add a 2) = some (Value.int IntKind.i64 n) ∧
                      ∃ a,
                        p0_t = some a ∧
                          ∃ n_1,
                            World.cell? w' (Addr.add a 1) = some (Value.int IntKind.i64 n_1) ∧
                              ((n == n_1) = true →
                                  R
                                    (Ending.returned
                                      (Value.tuple #[Value.int IntKind.i64 0, Value.int IntKind.i64 5]))
                                    w') ∧
                                ((n == n_1) = false →
                                  ∃ a,
                                    p0_t = some a ∧
                                      ∃ p n c,
                                        World.cell? w' (Addr.add a 0) = some (Value.slice p n c) ∧
                                          Cut
                                            (WP Tryd.prog 59 (Code.loop c33_1)
                                              (e33_1 p0_t p n c (↑n : Int) (0 : Int)) w' (k33_1 R))))) := by kernel_rfl
theorem t33_1 (p0_t : Option Addr) (p23_t_a : Option Addr) (p23_t_n : Nat) (p23_t_c : Nat) (p24_t : Int) (p25_t : Int) (w : World) (B33_1 : Env → World → Prop) (R : Ending → World → Prop) : den Tryd.prog M33 c33_1 (e33_1 p0_t p23_t_a p23_t_n p23_t_c p24_t p25_t) w (loopK B33_1 (k33_1 R)) =
((decide (p25_t < p24_t) = true →
    ((0 : Int) ≤ p25_t ∧ p25_t < (↑p23_t_n : Int)) ∧
      ∃ a,
        p23_t_a = some a ∧
          ∃ n,
            World.cell? w (Addr.add a (Int.toNat p25_t * 1)) = some (Value.int IntKind.u64 n) ∧
              Call Tryd.prog 40
                [Value.int IntKind.u64
                    (bitsOp BinOp.xor IntKind.u64
                      (match false with
                      | true => (-1 : Int)
                      | false => IntKind.max IntKind.u64)
                      n)]
                w fun e w' =>
                ∃ n,
                  e = Ending.returned (Value.int IntKind.i64 n) ∧
                    (decide (n < (64 : Int)) = true →
                        ∀ (w'_1 : World),
                          World.heap w'_1 = World.heap w' →
                            World.os w'_1 = World.os w' →
                              World.tape w'_1 = World.tape w' →
                                World.output w'_1 = World.output w' →
                                  ∃ a,
                                    p0_t = some a ∧
                                      ∃ p n_1 c,
                                        World.cell? w'_1 (Addr.add a 0) = some (Value.slice p n_1 c) ∧
                                          ((0 : Int) ≤ p25_t ∧ p25_t < (↑n_1 : Int)) ∧
                                            ∃ a,
                                              p = some a ∧
                                                ∃ n_2,
                                                  World.cell? w'_1 (Addr.add a (Int.toNat p25_t * 1)) =
                                                      some (Value.int IntKind.u64 n_2) ∧
                                                    (0 : Int) ≤ n ∧
                                                      ((0 : Int) ≤ p25_t ∧ p25_t < (↑n_1 : Int)) ∧
                                                        ∃ a,
                                                          p = some a ∧
                                                            Wr w'_1 (Addr.add a (Int.toNat p25_t * 1))
                                                              [Value.int IntKind.u64
                                                                  (bitsOp BinOp.or IntKind.u64 n_2
                                                                    (shlOp IntKind.u64 (1 : Int) n))]
                                                              fun w' =>
                                                              ∃ a,
                                                                p0_t = some a ∧
                                                                  ∃ n_3,
                                                                    World.cell? w' (Addr.add a 2) =
                                                                        some (Value.int IntKind.i64 n_3) ∧
                                                                      ∃ a,
                                                                        p0_t = some a ∧
                                                                          Wr w' (Addr.add a 2)
                                                                            [Value.int IntKind.i64
                                                                                (IntKind.wrap IntKind.i64
                                                                                  (n_3 + (1 : Int)))]
                                                                            fun w' =>
                                                                            R
                                                                              (Ending.returned
                                                                                (Value.tuple
                                                                                  #[Value.int IntKind.i64
                                                                                      (IntKind.wrap IntKind.i64
                                                                                        (IntKind.wrap IntKind.i64
                                                                                            (IntKind.wrap IntKind.i64
                                                                                                (p25_t * (64 : Int)) +
                                                                                              n) +
                                                                                          (1 : Int))),
                                                                                    Value.int IntKind.i64 0]))
                                                                              w') ∧
                      (decide (n < (64 : Int)) = false →
                        B33_1
                          [(0, SV.v (Value.pointer p0_t)),
                            (23, SV.v (Value.slice p23_t_a p23_t_n p23_t_c)),
                            (24, SV.v (Value.int IntKind.i64 p24_t)),
                            (25, SV.v (Value.int IntKind.i64 (IntKind.wrap IntKind.i64 (p25_t + (1 : Int)))))]
                          w')) ∧
  (decide (p25_t < p24_t) = false →
    R (Ending.returned (Value.tuple #[Value.int IntKind.i64 0, Value.int IntKind.i64 5])) w)) := by kernel_rfl
/-! (*davit/fifo.Queue).Push -/
def M34 : Mt := { N := 42, keep := [(0, [0, 1]), (1, [0, 1, 5]), (2, [4]), (3, [0, 1, 8]), (4, [4]), (5, [0, 1, 12]), (6, [4]), (7, [0]), (8, []), (9, [4])], ords := [(5, [0, 1, 2, 3, 4, 5, 6, 7, 8, 9, 10]), (7, [0, 1, 2, 3, 4, 5, 6, 7, 8, 10, 9, 11, 12])], bk := [(0, [0, 1])], cuts := [], lk := [] }
noncomputable def c34 : Code := bodyOf Tryd.f34
theorem b34 : Tryd.f34.body = some c34 := by kernel_rfl
theorem n34 : Tryd.f34.ntmps = M34.N := by kernel_rfl
theorem u34 {p0_q : Option Addr} {p1_n : Int} {w : World} {R : Ending → World → Prop} (h : den Tryd.prog M34 c34 (argE 0 [(Value.pointer p0_q), (Value.int IntKind.i64 p1_n)]) w (retK Tryd.prog Tryd.f34.results.toList R)) : Calls Tryd.prog 34 #[(Value.pointer p0_q), (Value.int IntKind.i64 p1_n)] w R := calls_den okProg Tryd.func34 b34 n34 (Nat.le_of_ble_eq_true rfl) h
theorem t34 (p0_q : Option Addr) (p1_n : Int) (w : World) (R : Ending → World → Prop) : den Tryd.prog M34 c34 (argE 0 [(Value.pointer p0_q), (Value.int IntKind.i64 p1_n)]) w (retK Tryd.prog Tryd.f34.results.toList R) =
((Option.isNone p0_q = true → R (Ending.returned (Value.int IntKind.i64 1)) w) ∧
  (Option.isNone p0_q = false →
    Call Tryd.prog 41 [Value.pointer p0_q, Value.int IntKind.i64 p1_n] w fun e w' =>
      ∃ b,
        e = Ending.returned (Value.bool b) ∧
          (b = true → R (Ending.returned (Value.int IntKind.i64 6)) w') ∧
            (b = false →
              ∀ (w'_1 : World),
                World.heap w'_1 = World.heap w' →
                  World.os w'_1 = World.os w' →
                    World.tape w'_1 = World.tape w' →
                      World.output w'_1 = World.output w' →
                        ∃ a,
                          p0_q = some a ∧
                            ∃ n,
                              World.cell? w'_1 (Addr.add a 2) = some (Value.int IntKind.i64 n) ∧
                                ∃ a,
                                  p0_q = some a ∧
                                    ∃ p n_1 c,
                                      World.cell? w'_1 (Addr.add a 0) = some (Value.slice p n_1 c) ∧
                                        ((n == (↑n_1 : Int)) = true →
                                            R (Ending.returned (Value.int IntKind.i64 5)) w'_1) ∧
                                          ((n == (↑n_1 : Int)) = false →
                                            ∀ (w' : World),
                                              World.heap w' = World.heap w'_1 →
                                                World.os w' = World.os w'_1 →
                                                  World.tape w' = World.tape w'_1 →
                                                    World.output w' = World.output w'_1 →
                                                      ∃ a,
                                                        p0_q = some a ∧
                                                          ∃ p n c,
                                                            World.cell? w' (Addr.add a 0) =
                                                                some (Value.slice p n c) ∧
                                                              ∃ a_1,
                                                                p0_q = some a_1 ∧
                                                                  ∃ n_2,
                                                                    World.cell? w' (Addr.add a_1 2) =
                                                                        some (Value.int IntKind.i64 n_2) ∧
                                                                      Call Tryd.prog 42
                                                                        [Value.pointer p0_q, Value.int IntKind.i64 n_2]
                                                                        w' fun e w' =>
                                                                        ∃ n_3,
                                                                          e =
                                                                              Ending.returned
                                                                                (Value.int IntKind.i64 n_3) ∧
                                                                            World.cell? w' (Addr.add a 0) =
                                                                                some (Value.slice p n c) ∧
                                                                              ((0 : Int) ≤ n_3 ∧ n_3 < (↑n : Int)) ∧
                                                                                ∃ a,
                                                                                  p = some a ∧
                                                                                    Wr w'
                                                                                      (Addr.add a
                                                                                        (Int.toNat n_3 * 1))
                                                                                      [Value.int IntKind.i64 p1_n]
                                                                                      fun w' =>
                                                                                      ∃ a,
                                                                                        p0_q = some a ∧
                                                                                          ∃ n,
                                                                                            World.cell? w'
                                                                                                  (Addr.add a
                                                                                                    2) =
                                                                                                some
                                                                                                  (Value.int IntKind.i64
                                                                                                    n) ∧
                                                                                              ∃ a,
                                                                                                p0_q = some a ∧
                                                                                                  Wr w'
                                                                                                    (Addr.add a
                                                                                                      2)
                                                                                                    [Value.int
                                                                                                        IntKind.i64
                                                                                                        (IntKind.wrap
                                                                                                          IntKind.i64
                                                                                                          (n +
                                                                                                            (1 : Int)))]
                                                                                                    fun w' =>
                                                                                                    R
                                                                                                      (Ending.returned
                                                                                                        (Value.int
                                                                                                          IntKind.i64
                                                                                                          (0 : Int)))
                                                                                                      w')))) := by kernel_rfl
/-! (*davit/fifo.Queue).Front -/
def M35 : Mt := { N := 23, keep := [(0, [0]), (1, [0, 4]), (2, [2, 3]), (3, [0, 7]), (4, [2, 3]), (5, [2, 3])], ords := [(5, [0, 1, 2, 3, 4, 5, 6, 7, 8, 9, 10, 11])], bk := [(0, [0])], cuts := [], lk := [] }
noncomputable def c35 : Code := bodyOf Tryd.f35
theorem b35 : Tryd.f35.body = some c35 := by kernel_rfl
theorem n35 : Tryd.f35.ntmps = M35.N := by kernel_rfl
theorem u35 {p0_q : Option Addr} {w : World} {R : Ending → World → Prop} (h : den Tryd.prog M35 c35 (argE 0 [(Value.pointer p0_q)]) w (retK Tryd.prog Tryd.f35.results.toList R)) : Calls Tryd.prog 35 #[(Value.pointer p0_q)] w R := calls_den okProg Tryd.func35 b35 n35 (Nat.le_of_ble_eq_true rfl) h
theorem t35 (p0_q : Option Addr) (w : World) (R : Ending → World → Prop) : den Tryd.prog M35 c35 (argE 0 [(Value.pointer p0_q)]) w (retK Tryd.prog Tryd.f35.results.toList R) =
((Option.isNone p0_q = true →
    R (Ending.returned (Value.tuple #[Value.int IntKind.i64 0, Value.int IntKind.i64 1])) w) ∧
  (Option.isNone p0_q = false →
    ∃ a,
      p0_q = some a ∧
        ∃ n,
          World.cell? w (Addr.add a 2) = some (Value.int IntKind.i64 n) ∧
            ((n == (0 : Int)) = true →
                R (Ending.returned (Value.tuple #[Value.int IntKind.i64 0, Value.int IntKind.i64 12]))
                  w) ∧
              ((n == (0 : Int)) = false →
                ∀ (w' : World),
                  World.heap w' = World.heap w →
                    World.os w' = World.os w →
                      World.tape w' = World.tape w →
                        World.output w' = World.output w →
                          ∃ a,
                            p0_q = some a ∧
                              ∃ p n c,
                                World.cell? w' (Addr.add a 0) = some (Value.slice p n c) ∧
                                  ∃ a,
                                    p0_q = some a ∧
                                      ∃ n_1,
                                        World.cell? w' (Addr.add a 1) = some (Value.int IntKind.i64 n_1) ∧
                                          ((0 : Int) ≤ n_1 ∧ n_1 < (↑n : Int)) ∧
                                            ∃ a,
                                              p = some a ∧
                                                ∃ n,
                                                  World.cell? w' (Addr.add a (Int.toNat n_1 * 1)) =
                                                      some (Value.int IntKind.i64 n) ∧
                                                    R
                                                      (Ending.returned
                                                        (Value.tuple
                                                          #[Value.int IntKind.i64 n, Value.int IntKind.i64 0]))
                                                      w'))) := by kernel_rfl
/-! (*davit/fifo.Queue).Pop -/
def M36 : Mt := { N := 27, keep := [(0, [0]), (1, [0, 4, 5]), (2, [0, 4, 5, 12]), (3, [0, 4, 5]), (4, [4, 5]), (5, [2, 3])], ords := [], bk := [], cuts := [], lk := [] }
noncomputable def c36 : Code := bodyOf Tryd.f36
theorem b36 : Tryd.f36.body = some c36 := by kernel_rfl
theorem n36 : Tryd.f36.ntmps = M36.N := by kernel_rfl
theorem u36 {p0_q : Option Addr} {w : World} {R : Ending → World → Prop} (h : den Tryd.prog M36 c36 (argE 0 [(Value.pointer p0_q)]) w (retK Tryd.prog Tryd.f36.results.toList R)) : Calls Tryd.prog 36 #[(Value.pointer p0_q)] w R := calls_den okProg Tryd.func36 b36 n36 (Nat.le_of_ble_eq_true rfl) h
theorem t36 (p0_q : Option Addr) (w : World) (R : Ending → World → Prop) : den Tryd.prog M36 c36 (argE 0 [(Value.pointer p0_q)]) w (retK Tryd.prog Tryd.f36.results.toList R) =
(Call Tryd.prog 35 [Value.pointer p0_q] w fun e w' =>
  ∃ n n_1,
    e = Ending.returned (Value.tuple #[Value.int IntKind.i64 n, Value.int IntKind.i64 n_1]) ∧
      ((n_1 == (0 : Int)) = true →
          Call Tryd.prog 42 [Value.pointer p0_q, Value.int IntKind.i64 1] w' fun e w' =>
            ∃ n_2,
              e = Ending.returned (Value.int IntKind.i64 n_2) ∧
                ∃ a,
                  p0_q = some a ∧
                    Wr w' (Addr.add a 1) [Value.int IntKind.i64 n_2] fun w' =>
                      ∃ a,
                        p0_q = some a ∧
                          ∃ n_3,
                            World.cell? w' (Addr.add a 2) = some (Value.int IntKind.i64 n_3) ∧
                              ∃ a,
                                p0_q = some a ∧
                                  Wr w' (Addr.add a 2)
                                    [Value.int IntKind.i64 (IntKind.wrap IntKind.i64 (n_3 - (1 : Int)))] fun w' =>
                                    R
                                      (Ending.returned
                                        (Value.tuple #[Value.int IntKind.i64 n, Value.int IntKind.i64 n_1]))
                                      w') ∧
        ((n_1 == (0 : Int)) = false →
          R (Ending.returned (Value.tuple #[Value.int IntKind.i64 n, Value.int IntKind.i64 n_1])) w')) := by kernel_rfl
/-! (*davit/slot.Table).Give -/
def M37 : Mt := { N := 40, keep := [(0, [0, 1]), (1, [0, 5, 6]), (2, [0, 5, 6, 13]), (3, [4]), (4, [0, 5, 6, 16]), (5, [4]), (6, [0]), (7, []), (8, [4])], ords := [], bk := [(0, [0, 5, 6])], cuts := [], lk := [] }
noncomputable def c37 : Code := bodyOf Tryd.f37
theorem b37 : Tryd.f37.body = some c37 := by kernel_rfl
theorem n37 : Tryd.f37.ntmps = M37.N := by kernel_rfl
theorem u37 {p0_t : Option Addr} {p1_n : Int} {w : World} {R : Ending → World → Prop} (h : den Tryd.prog M37 c37 (argE 0 [(Value.pointer p0_t), (Value.int IntKind.i64 p1_n)]) w (retK Tryd.prog Tryd.f37.results.toList R)) : Calls Tryd.prog 37 #[(Value.pointer p0_t), (Value.int IntKind.i64 p1_n)] w R := calls_den okProg Tryd.func37 b37 n37 (Nat.le_of_ble_eq_true rfl) h
theorem t37 (p0_t : Option Addr) (p1_n : Int) (w : World) (R : Ending → World → Prop) : den Tryd.prog M37 c37 (argE 0 [(Value.pointer p0_t), (Value.int IntKind.i64 p1_n)]) w (retK Tryd.prog Tryd.f37.results.toList R) =
(Call Tryd.prog 43 [Value.pointer p0_t, Value.int IntKind.i64 p1_n] w fun e w' =>
  ∃ p n,
    e = Ending.returned (Value.tuple #[Value.pointer p, Value.int IntKind.u64 n]) ∧
      (Option.isNone p0_t = true → R (Ending.returned (Value.int IntKind.i64 1)) w') ∧
        (Option.isNone p0_t = false →
          (Option.isNone p = false →
              ∃ a,
                p = some a ∧
                  ∃ n_1,
                    World.cell? w' a = some (Value.int IntKind.u64 n_1) ∧
                      ((bitsOp BinOp.and IntKind.u64 n_1 n == (0 : Int)) = true →
                          R (Ending.returned (Value.int IntKind.i64 4)) w') ∧
                        ((bitsOp BinOp.and IntKind.u64 n_1 n == (0 : Int)) = false →
                          ∃ a,
                            p = some a ∧
                              ∃ n_2,
                                World.cell? w' a = some (Value.int IntKind.u64 n_2) ∧
                                  ∃ a,
                                    p = some a ∧
                                      Wr w' a [Value.int IntKind.u64 (bitsOp BinOp.andNot IntKind.u64 n_2 n)] fun w' =>
                                        ∃ a,
                                          p0_t = some a ∧
                                            ∃ n,
                                              World.cell? w' (Addr.add a 2) = some (Value.int IntKind.i64 n) ∧
                                                ∃ a,
                                                  p0_t = some a ∧
                                                    Wr w' (Addr.add a 2)
                                                      [Value.int IntKind.i64 (IntKind.wrap IntKind.i64 (n - (1 : Int)))]
                                                      fun w' =>
                                                      R (Ending.returned (Value.int IntKind.i64 0)) w')) ∧
            (Option.isNone p = true → R (Ending.returned (Value.int IntKind.i64 4)) w'))) := by kernel_rfl
/-! (*davit/fifo.Queue).Drop -/
def M38 : Mt := { N := 45, keep := [(0, [0, 1]), (1, [0, 1, 9]), (2, [4]), (3, [0, 1, 5]), (4, [0, 5, 6]), (5, [0, 5, 6, 16]), (6, [4]), (7, [0, 5, 7]), (8, [0, 5, 7, 22]), (9, [0, 5, 7]), (10, [0, 5, 7]), (11, []), (12, [4])], ords := [(10, [0, 1, 2, 3, 4, 5, 7, 8, 9, 10, 11, 6, 12, 13])], bk := [(0, [0]), (1, [0, 5, 7])], cuts := [], lk := [(8, [0, 5, 7])] }
noncomputable def c38 : Code := bodyOf Tryd.f38
noncomputable def c38_0 : Code := c38.sr.sr.sr.sr.sr.sr
noncomputable def c38_1 : Code := c38.sr.sr.sr.sr.sr.sl.sr.sl.sl
def e38_1 (p0_q : Option Addr) (p5_l_a : Option Addr) (p5_l_n : Nat) (p5_l_c : Nat) (p7_i : Int) : Env := [(0, SV.v (Value.pointer p0_q)), (5, SV.v (Value.slice p5_l_a p5_l_n p5_l_c)), (7, SV.v (Value.int IntKind.i64 p7_i))]
def k38_1 (R : Ending → World → Prop) : Cont := blockK 0 [0] (seqK (fun E w => cutB (findL M38.cuts (headReg c38_0)) Tryd.prog M38 c38_0 E w (retK Tryd.prog Tryd.f38.results.toList R) fun E => den Tryd.prog M38 c38_0 E w (retK Tryd.prog Tryd.f38.results.toList R)) (retK Tryd.prog Tryd.f38.results.toList R))
theorem b38 : Tryd.f38.body = some c38 := by kernel_rfl
theorem n38 : Tryd.f38.ntmps = M38.N := by kernel_rfl
theorem u38 {p0_q : Option Addr} {p1_n : Int} {w : World} {R : Ending → World → Prop} (h : den Tryd.prog M38 c38 (argE 0 [(Value.pointer p0_q), (Value.int IntKind.i64 p1_n)]) w (retK Tryd.prog Tryd.f38.results.toList R)) : Calls Tryd.prog 38 #[(Value.pointer p0_q), (Value.int IntKind.i64 p1_n)] w R := calls_den okProg Tryd.func38 b38 n38 (Nat.le_of_ble_eq_true rfl) h
theorem t38 (p0_q : Option Addr) (p1_n : Int) (w : World) (R : Ending → World → Prop) : den Tryd.prog M38 c38 (argE 0 [(Value.pointer p0_q), (Value.int IntKind.i64 p1_n)]) w (retK Tryd.prog Tryd.f38.results.toList R) =
((Option.isNone p0_q = true → R (Ending.returned (Value.int IntKind.i64 1)) w) ∧
  (Option.isNone p0_q = false →
    Call Tryd.prog 30 [Value.pointer p0_q] w fun e w' =>
      ∃ p n c,
        e = Ending.returned (Value.slice p n c) ∧
          Call Tryd.prog 44 [Value.slice p n c, Value.int IntKind.i64 p1_n] w' fun e w' =>
            ∃ n_1,
              e = Ending.returned (Value.int IntKind.i64 n_1) ∧
                (decide (n_1 < (0 : Int)) = true → R (Ending.returned (Value.int IntKind.i64 4)) w') ∧
                  (decide (n_1 < (0 : Int)) = false →
                    Cut (WP Tryd.prog 45 (Code.loop c38_1) (e38_1 p0_q p n c n_1) w' (k38_1 R))))) := by kernel_rfl
theorem t38_1 (p0_q : Option Addr) (p5_l_a : Option Addr) (p5_l_n : Nat) (p5_l_c : Nat) (p7_i : Int) (w : World) (B38_1 : Env → World → Prop) (R : Ending → World → Prop) : den Tryd.prog M38 c38_1 (e38_1 p0_q p5_l_a p5_l_n p5_l_c p7_i) w (loopK B38_1 (k38_1 R)) =
((decide (IntKind.wrap IntKind.i64 (p7_i + (1 : Int)) < (↑p5_l_n : Int)) = true →
    ∀ (w' : World),
      World.heap w' = World.heap w →
        World.os w' = World.os w →
          World.tape w' = World.tape w →
            World.output w' = World.output w →
              ∃ a,
                p0_q = some a ∧
                  ∃ p n c,
                    World.cell? w' (Addr.add a 0) = some (Value.slice p n c) ∧
                      ((0 : Int) ≤ IntKind.wrap IntKind.i64 (p7_i + (1 : Int)) ∧
                          IntKind.wrap IntKind.i64 (p7_i + (1 : Int)) < (↑p5_l_n : Int)) ∧
                        ∃ a_1,
                          p5_l_a = some a_1 ∧
                            ∃ n_1,
                              World.cell? w'
                                    (Addr.add a_1
                                      (Int.toNat (IntKind.wrap IntKind.i64 (p7_i + (1 : Int))) * 1)) =
                                  some (Value.int IntKind.i64 n_1) ∧
                                Call Tryd.prog 42 [Value.pointer p0_q, Value.int IntKind.i64 p7_i] w'
                                  fun e w' =>
                                  ∃ n_2,
                                    e = Ending.returned (Value.int IntKind.i64 n_2) ∧
                                      World.cell? w'
                                            (Addr.add a_1
                                              (Int.toNat (IntKind.wrap IntKind.i64 (p7_i + (1 : Int))) * 1)) =
                                          some (Value.int IntKind.i64 n_1) ∧
                                        World.cell? w' (Addr.add a 0) = some (Value.slice p n c) ∧
                                          ((0 : Int) ≤ n_2 ∧ n_2 < (↑n : Int)) ∧
                                            ∃ a,
                                              p = some a ∧
                                                Wr w' (Addr.add a (Int.toNat n_2 * 1))
                                                  [Value.int IntKind.i64 n_1] fun w' =>
                                                  B38_1
                                                    [(0, SV.v (Value.pointer p0_q)),
                                                      (5, SV.v (Value.slice p5_l_a p5_l_n p5_l_c)),
                                                      (7,
                                                        SV.v
                                                          (Value.int IntKind.i64
                                                            (IntKind.wrap IntKind.i64 (p7_i + (1 : Int)))))]
                                                    w') ∧
  (decide (IntKind.wrap IntKind.i64 (p7_i + (1 : Int)) < (↑p5_l_n : Int)) = false →
    ∃ a,
      p0_q = some a ∧
        ∃ n,
          World.cell? w (Addr.add a 2) = some (Value.int IntKind.i64 n) ∧
            ∃ a,
              p0_q = some a ∧
                Wr w (Addr.add a 2) [Value.int IntKind.i64 (IntKind.wrap IntKind.i64 (n - (1 : Int)))]
                  fun w' => R (Ending.returned (Value.int IntKind.i64 0)) w')) := by kernel_rfl
/-! davit/davitref03.Without -/
def M39 : Mt := { N := 27, keep := [(0, [0, 1]), (1, [0, 1, 5]), (2, [0, 1, 5, 6]), (3, [0, 1, 5, 6, 10]), (4, [0, 1, 5, 6]), (5, [0, 1, 5, 6, 18]), (6, [0, 1, 5, 6]), (7, [4])], ords := [], bk := [(0, [5]), (1, [0, 1, 5, 6])], cuts := [], lk := [(3, [0, 1, 5, 6])] }
noncomputable def c39 : Code := bodyOf Tryd.f39
noncomputable def c39_0 : Code := c39.sr.sr.sr
noncomputable def c39_1 : Code := c39.sr.sr.sl.sr.sl.sl
def e39_1 (p0_l_a : Option Addr) (p0_l_n : Nat) (p0_l_c : Nat) (p1_n : Int) (p5_out_a : Option Addr) (p5_out_n : Nat) (p5_out_c : Nat) (p6_i : Int) : Env := [(0, SV.v (Value.slice p0_l_a p0_l_n p0_l_c)), (1, SV.v (Value.int IntKind.i64 p1_n)), (5, SV.v (Value.slice p5_out_a p5_out_n p5_out_c)), (6, SV.v (Value.int IntKind.i64 p6_i))]
def k39_1 (R : Ending → World → Prop) : Cont := blockK 0 [5] (seqK (fun E w => cutB (findL M39.cuts (headReg c39_0)) Tryd.prog M39 c39_0 E w (retK Tryd.prog Tryd.f39.results.toList R) fun E => den Tryd.prog M39 c39_0 E w (retK Tryd.prog Tryd.f39.results.toList R)) (retK Tryd.prog Tryd.f39.results.toList R))
theorem b39 : Tryd.f39.body = some c39 := by kernel_rfl
theorem n39 : Tryd.f39.ntmps = M39.N := by kernel_rfl
theorem u39 {p0_l_a : Option Addr} {p0_l_n : Nat} {p0_l_c : Nat} {p1_n : Int} {w : World} {R : Ending → World → Prop} (h : den Tryd.prog M39 c39 (argE 0 [(Value.slice p0_l_a p0_l_n p0_l_c), (Value.int IntKind.i64 p1_n)]) w (retK Tryd.prog Tryd.f39.results.toList R)) : Calls Tryd.prog 39 #[(Value.slice p0_l_a p0_l_n p0_l_c), (Value.int IntKind.i64 p1_n)] w R := calls_den okProg Tryd.func39 b39 n39 (Nat.le_of_ble_eq_true rfl) h
theorem t39 (p0_l_a : Option Addr) (p0_l_n : Nat) (p0_l_c : Nat) (p1_n : Int) (w : World) (R : Ending → World → Prop) : den Tryd.prog M39 c39 (argE 0 [(Value.slice p0_l_a p0_l_n p0_l_c), (Value.int IntKind.i64 p1_n)]) w (retK Tryd.prog Tryd.f39.results.toList R) =
(Cut
  (WP Tryd.prog 27 (Code.loop c39_1) (e39_1 p0_l_a p0_l_n p0_l_c p1_n none 0 0 (0 : Int)) w
    (k39_1 R))) := by kernel_rfl
theorem t39_1 (p0_l_a : Option Addr) (p0_l_n : Nat) (p0_l_c : Nat) (p1_n : Int) (p5_out_a : Option Addr) (p5_out_n : Nat) (p5_out_c : Nat) (p6_i : Int) (w : World) (B39_1 : Env → World → Prop) (R : Ending → World → Prop) : den Tryd.prog M39 c39_1 (e39_1 p0_l_a p0_l_n p0_l_c p1_n p5_out_a p5_out_n p5_out_c p6_i) w (loopK B39_1 (k39_1 R)) =
((decide (p6_i < (↑p0_l_n : Int)) = true →
    ((0 : Int) ≤ p6_i ∧ p6_i < (↑p0_l_n : Int)) ∧
      ∃ a,
        p0_l_a = some a ∧
          ∃ n,
            World.cell? w (Addr.add a (Int.toNat p6_i * 1)) = some (Value.int IntKind.i64 n) ∧
              ((n != p1_n) = true →
                  ((0 : Int) ≤ p6_i ∧ p6_i < (↑p0_l_n : Int)) ∧
                    ∃ a,
                      p0_l_a = some a ∧
                        ∃ n,
                          World.cell? w (Addr.add a (Int.toNat p6_i * 1)) = some (Value.int IntKind.i64 n) ∧
                            New w [Value.int IntKind.i64 n] 3 fun p w' =>
                              ∃ p_1 n c w'_1,
                                Sem.run Tryd.prog
                                      (Builtin.append_ #[38, 38] 38
                                        #[Value.slice p5_out_a p5_out_n p5_out_c,
                                          Value.slice (some p) 1 1])
                                      w' =
                                    Result.ok (Value.slice p_1 n c) w'_1 ∧
                                  B39_1
                                    [(0, SV.v (Value.slice p0_l_a p0_l_n p0_l_c)),
                                      (1, SV.v (Value.int IntKind.i64 p1_n)),
                                      (5, SV.v (Value.slice p_1 n c)),
                                      (6,
                                        SV.v (Value.int IntKind.i64 (IntKind.wrap IntKind.i64 (p6_i + (1 : Int)))))]
                                    w'_1) ∧
                ((n != p1_n) = false →
                  B39_1
                    [(0, SV.v (Value.slice p0_l_a p0_l_n p0_l_c)),
                      (1, SV.v (Value.int IntKind.i64 p1_n)),
                      (5, SV.v (Value.slice p5_out_a p5_out_n p5_out_c)),
                      (6, SV.v (Value.int IntKind.i64 (IntKind.wrap IntKind.i64 (p6_i + (1 : Int)))))]
                    w)) ∧
  (decide (p6_i < (↑p0_l_n : Int)) = false → R (Ending.returned (Value.slice p5_out_a p5_out_n p5_out_c)) w)) := by kernel_rfl
/-! math/bits.TrailingZeros64 -/
def M40 : Mt := { N := 14, keep := [(0, [0]), (1, [0, 4]), (2, [2]), (3, [2])], ords := [], bk := [], cuts := [], lk := [] }
noncomputable def c40 : Code := bodyOf Tryd.f40
theorem b40 : Tryd.f40.body = some c40 := by kernel_rfl
theorem n40 : Tryd.f40.ntmps = M40.N := by kernel_rfl
theorem u40 {p0_x : Int} {w : World} {R : Ending → World → Prop} (h : den Tryd.prog M40 c40 (argE 0 [(Value.int IntKind.u64 p0_x)]) w (retK Tryd.prog Tryd.f40.results.toList R)) : Calls Tryd.prog 40 #[(Value.int IntKind.u64 p0_x)] w R := calls_den okProg Tryd.func40 b40 n40 (Nat.le_of_ble_eq_true rfl) h
set_option maxRecDepth 100000 in
theorem t40 (p0_x : Int) (w : World) (R : Ending → World → Prop) : den Tryd.prog M40 c40 (argE 0 [(Value.int IntKind.u64 p0_x)]) w (retK Tryd.prog Tryd.f40.results.toList R) =
(((p0_x == (0 : Int)) = true → R (Ending.returned (Value.int IntKind.i64 64)) w) ∧
  ((p0_x == (0 : Int)) = false → (0 : Int) ≤ (58 : Int) ∧ ((0 : Int) ≤ shrOp IntKind.u64 (IntKind.wrap IntKind.u64 (bitsOp BinOp.and IntKind.u64 p0_x (IntKind.wrap IntKind.u64 (0 - p0_x)) * 285870213051353865)) 58 ∧ shrOp IntKind.u64 (IntKind.wrap IntKind.u64 (bitsOp BinOp.and IntKind.u64 p0_x (IntKind.wrap IntKind.u64 (0 - p0_x)) * 285870213051353865)) 58 < ((64 : Nat) : Int)) ∧
    ∃ n, World.cell? w (Addr.add ⟨0, 0, none⟩ (Int.toNat (shrOp IntKind.u64 (IntKind.wrap IntKind.u64 (bitsOp BinOp.and IntKind.u64 p0_x (IntKind.wrap IntKind.u64 (0 - p0_x)) * 285870213051353865)) 58) * 1)) = some (Value.int IntKind.u8 n) ∧ R (Ending.returned (Value.int IntKind.i64 (IntKind.wrap IntKind.i64 n))) w)) := by kernel_rfl
/-! (*davit/fifo.Queue).Has -/
def M41 : Mt := { N := 9, keep := [(0, [0, 1]), (1, [4])], ords := [], bk := [], cuts := [], lk := [] }
noncomputable def c41 : Code := bodyOf Tryd.f41
theorem b41 : Tryd.f41.body = some c41 := by kernel_rfl
theorem n41 : Tryd.f41.ntmps = M41.N := by kernel_rfl
theorem u41 {p0_q : Option Addr} {p1_n : Int} {w : World} {R : Ending → World → Prop} (h : den Tryd.prog M41 c41 (argE 0 [(Value.pointer p0_q), (Value.int IntKind.i64 p1_n)]) w (retK Tryd.prog Tryd.f41.results.toList R)) : Calls Tryd.prog 41 #[(Value.pointer p0_q), (Value.int IntKind.i64 p1_n)] w R := calls_den okProg Tryd.func41 b41 n41 (Nat.le_of_ble_eq_true rfl) h
theorem t41 (p0_q : Option Addr) (p1_n : Int) (w : World) (R : Ending → World → Prop) : den Tryd.prog M41 c41 (argE 0 [(Value.pointer p0_q), (Value.int IntKind.i64 p1_n)]) w (retK Tryd.prog Tryd.f41.results.toList R) =
(Call Tryd.prog 30 [Value.pointer p0_q] w fun e w' =>
  ∃ p n c,
    e = Ending.returned (Value.slice p n c) ∧
      Call Tryd.prog 45 [Value.slice p n c, Value.int IntKind.i64 p1_n] w' fun e w' =>
        ∃ b, e = Ending.returned (Value.bool b) ∧ R (Ending.returned (Value.bool b)) w') := by kernel_rfl
/-! (*davit/fifo.Queue).at -/
def M42 : Mt := { N := 17, keep := [(0, [0, 1]), (1, [4])], ords := [(1, [0, 1, 2, 3, 4, 5, 6, 7, 8, 9, 10, 11, 12])], bk := [], cuts := [], lk := [] }
noncomputable def c42 : Code := bodyOf Tryd.f42
theorem b42 : Tryd.f42.body = some c42 := by kernel_rfl
theorem n42 : Tryd.f42.ntmps = M42.N := by kernel_rfl
theorem u42 {p0_q : Option Addr} {p1_n : Int} {w : World} {R : Ending → World → Prop} (h : den Tryd.prog M42 c42 (argE 0 [(Value.pointer p0_q), (Value.int IntKind.i64 p1_n)]) w (retK Tryd.prog Tryd.f42.results.toList R)) : Calls Tryd.prog 42 #[(Value.pointer p0_q), (Value.int IntKind.i64 p1_n)] w R := calls_den okProg Tryd.func42 b42 n42 (Nat.le_of_ble_eq_true rfl) h
theorem t42 (p0_q : Option Addr) (p1_n : Int) (w : World) (R : Ending → World → Prop) : den Tryd.prog M42 c42 (argE 0 [(Value.pointer p0_q), (Value.int IntKind.i64 p1_n)]) w (retK Tryd.prog Tryd.f42.results.toList R) =
(∀ (w' : World),
  World.heap w' = World.heap w →
    World.os w' = World.os w →
      World.tape w' = World.tape w →
        World.output w' = World.output w →
          ∃ a,
            p0_q = some a ∧
              ∃ n,
                World.cell? w' (Addr.add a 1) = some (Value.int IntKind.i64 n) ∧
                  ∃ a,
                    p0_q = some a ∧
                      ∃ p n_1 c,
                        World.cell? w' (Addr.add a 0) = some (Value.slice p n_1 c) ∧
                          (↑n_1 : Int) ≠ (0 : Int) ∧
                            R
                              (Ending.returned
                                (Value.int IntKind.i64 (Int.tmod (IntKind.wrap IntKind.i64 (n + p1_n)) (↑n_1 : Int))))
                              w') := by kernel_rfl
/-! (*davit/slot.Table).bit -/
def M43 : Mt := { N := 32, keep := [(0, [0, 1]), (1, [0, 1, 19]), (2, [4, 5]), (3, [4, 5])], ords := [(3, [0, 1, 2, 3, 4, 5, 6, 7, 8, 9, 10, 11, 12, 13])], bk := [], cuts := [], lk := [] }
noncomputable def c43 : Code := bodyOf Tryd.f43
theorem b43 : Tryd.f43.body = some c43 := by kernel_rfl
theorem n43 : Tryd.f43.ntmps = M43.N := by kernel_rfl
theorem u43 {p0_t : Option Addr} {p1_n : Int} {w : World} {R : Ending → World → Prop} (h : den Tryd.prog M43 c43 (argE 0 [(Value.pointer p0_t), (Value.int IntKind.i64 p1_n)]) w (retK Tryd.prog Tryd.f43.results.toList R)) : Calls Tryd.prog 43 #[(Value.pointer p0_t), (Value.int IntKind.i64 p1_n)] w R := calls_den okProg Tryd.func43 b43 n43 (Nat.le_of_ble_eq_true rfl) h
theorem t43 (p0_t : Option Addr) (p1_n : Int) (w : World) (R : Ending → World → Prop) : den Tryd.prog M43 c43 (argE 0 [(Value.pointer p0_t), (Value.int IntKind.i64 p1_n)]) w (retK Tryd.prog Tryd.f43.results.toList R) =
((Option.isNone p0_t = false →
    (decide (p1_n < (1 : Int)) = false →
        ∃ a,
          p0_t = some a ∧
            ∃ n,
              World.cell? w (Addr.add a 1) = some (Value.int IntKind.i64 n) ∧
                (decide (p1_n > n) = true →
                    R (Ending.returned (Value.tuple #[Value.pointer none, Value.int IntKind.u64 0])) w) ∧
                  (decide (p1_n > n) = false →
                    ∀ (w' : World),
                      World.heap w' = World.heap w →
                        World.os w' = World.os w →
                          World.tape w' = World.tape w →
                            World.output w' = World.output w →
                              ∃ a,
                                p0_t = some a ∧
                                  ∃ p n c,
                                    World.cell? w' (Addr.add a 0) = some (Value.slice p n c) ∧
                                      (64 : Int) ≠ (0 : Int) ∧
                                        ((0 : Int) ≤
                                              IntKind.wrap IntKind.i64
                                                (Int.tdiv (IntKind.wrap IntKind.i64 (p1_n - (1 : Int))) (64 : Int)) ∧
                                            IntKind.wrap IntKind.i64
                                                (Int.tdiv (IntKind.wrap IntKind.i64 (p1_n - (1 : Int))) (64 : Int)) <
                                              (↑n : Int)) ∧
                                          ∃ a,
                                            p = some a ∧
                                              (64 : Int) ≠ (0 : Int) ∧
                                                (0 : Int) ≤
                                                    Int.tmod (IntKind.wrap IntKind.i64 (p1_n - (1 : Int))) (64 : Int) ∧
                                                  R
                                                    (Ending.returned
                                                      (Value.tuple
                                                        #[Value.pointer
                                                            (some
                                                              (Addr.add a
                                                                (Int.toNat
                                                                    (IntKind.wrap IntKind.i64
                                                                      (Int.tdiv
                                                                        (IntKind.wrap IntKind.i64 (p1_n - (1 : Int)))
                                                                        (64 : Int))) *
                                                                  1))),
                                                          Value.int IntKind.u64
                                                            (shlOp IntKind.u64 (1 : Int)
                                                              (Int.tmod (IntKind.wrap IntKind.i64 (p1_n - (1 : Int)))
                                                                (64 : Int)))]))
                                                    w')) ∧
      (decide (p1_n < (1 : Int)) = true →
        R (Ending.returned (Value.tuple #[Value.pointer none, Value.int IntKind.u64 0])) w)) ∧
  (Option.isNone p0_t = true →
    R (Ending.returned (Value.tuple #[Value.pointer none, Value.int IntKind.u64 0])) w)) := by kernel_rfl
/-! slices.Index[[]int,int] -/
def M44 : Mt := { N := 19, keep := [(0, [0, 1]), (1, [0, 1, 7, 8]), (2, [0, 1, 7, 8, 9]), (3, [0, 1, 5, 7, 8]), (4, [0, 1, 5, 7, 8, 16]), (5, [4]), (6, [0, 1, 7, 8]), (7, [4])], ords := [], bk := [(0, []), (1, [0, 1, 7, 8])], cuts := [], lk := [(2, [0, 1, 7, 8])] }
noncomputable def c44 : Code := bodyOf Tryd.f44
noncomputable def c44_0 : Code := c44.sr.sr
noncomputable def c44_1 : Code := c44.sr.sl.sr.sl.sl
def e44_1 (p0_s_a : Option Addr) (p0_s_n : Nat) (p0_s_c : Nat) (p1_v : Int) (p7_t : Int) (p8_t : Int) : Env := [(0, SV.v (Value.slice p0_s_a p0_s_n p0_s_c)), (1, SV.v (Value.int IntKind.i64 p1_v)), (7, SV.v (Value.int IntKind.i64 p7_t)), (8, SV.v (Value.int IntKind.i64 p8_t))]
def k44_1 (R : Ending → World → Prop) : Cont := blockK 0 [] (seqK (fun E w => cutB (findL M44.cuts (headReg c44_0)) Tryd.prog M44 c44_0 E w (retK Tryd.prog Tryd.f44.results.toList R) fun E => den Tryd.prog M44 c44_0 E w (retK Tryd.prog Tryd.f44.results.toList R)) (retK Tryd.prog Tryd.f44.results.toList R))
theorem b44 : Tryd.f44.body = some c44 := by kernel_rfl
theorem n44 : Tryd.f44.ntmps = M44.N := by kernel_rfl
theorem u44 {p0_s_a : Option Addr} {p0_s_n : Nat} {p0_s_c : Nat} {p1_v : Int} {w : World} {R : Ending → World → Prop} (h : den Tryd.prog M44 c44 (argE 0 [(Value.slice p0_s_a p0_s_n p0_s_c), (Value.int IntKind.i64 p1_v)]) w (retK Tryd.prog Tryd.f44.results.toList R)) : Calls Tryd.prog 44 #[(Value.slice p0_s_a p0_s_n p0_s_c), (Value.int IntKind.i64 p1_v)] w R := calls_den okProg Tryd.func44 b44 n44 (Nat.le_of_ble_eq_true rfl) h
theorem t44 (p0_s_a : Option Addr) (p0_s_n : Nat) (p0_s_c : Nat) (p1_v : Int) (w : World) (R : Ending → World → Prop) : den Tryd.prog M44 c44 (argE 0 [(Value.slice p0_s_a p0_s_n p0_s_c), (Value.int IntKind.i64 p1_v)]) w (retK Tryd.prog Tryd.f44.results.toList R) =
(Cut
  (WP Tryd.prog 19 (Code.loop c44_1) (e44_1 p0_s_a p0_s_n p0_s_c p1_v (↑p0_s_n : Int) (0 : Int)) w
    (k44_1 R))) := by kernel_rfl
theorem t44_1 (p0_s_a : Option Addr) (p0_s_n : Nat) (p0_s_c : Nat) (p1_v : Int) (p7_t : Int) (p8_t : Int) (w : World) (B44_1 : Env → World → Prop) (R : Ending → World → Prop) : den Tryd.prog M44 c44_1 (e44_1 p0_s_a p0_s_n p0_s_c p1_v p7_t p8_t) w (loopK B44_1 (k44_1 R)) =
((decide (p8_t < p7_t) = true →
    ((0 : Int) ≤ p8_t ∧ p8_t < (↑p0_s_n : Int)) ∧
      ∃ a,
        p0_s_a = some a ∧
          ∃ n,
            World.cell? w (Addr.add a (Int.toNat p8_t * 1)) = some (Value.int IntKind.i64 n) ∧
              ((p1_v == n) = true → R (Ending.returned (Value.int IntKind.i64 p8_t)) w) ∧
                ((p1_v == n) = false →
                  B44_1
                    [(0, SV.v (Value.slice p0_s_a p0_s_n p0_s_c)),
                      (1, SV.v (Value.int IntKind.i64 p1_v)), (7, SV.v (Value.int IntKind.i64 p7_t)),
                      (8, SV.v (Value.int IntKind.i64 (IntKind.wrap IntKind.i64 (p8_t + (1 : Int)))))]
                    w)) ∧
  (decide (p8_t < p7_t) = false → R (Ending.returned (Value.int IntKind.i64 (-1 : Int))) w)) := by kernel_rfl
/-! slices.Contains[[]int,int] -/
def M45 : Mt := { N := 9, keep := [(0, [0, 1]), (1, [4])], ords := [], bk := [], cuts := [], lk := [] }
noncomputable def c45 : Code := bodyOf Tryd.f45
theorem b45 : Tryd.f45.body = some c45 := by kernel_rfl
theorem n45 : Tryd.f45.ntmps = M45.N := by kernel_rfl
theorem u45 {p0_s_a : Option Addr} {p0_s_n : Nat} {p0_s_c : Nat} {p1_v : Int} {w : World} {R : Ending → World → Prop} (h : den Tryd.prog M45 c45 (argE 0 [(Value.slice p0_s_a p0_s_n p0_s_c), (Value.int IntKind.i64 p1_v)]) w (retK Tryd.prog Tryd.f45.results.toList R)) : Calls Tryd.prog 45 #[(Value.slice p0_s_a p0_s_n p0_s_c), (Value.int IntKind.i64 p1_v)] w R := calls_den okProg Tryd.func45 b45 n45 (Nat.le_of_ble_eq_true rfl) h
theorem t45 (p0_s_a : Option Addr) (p0_s_n : Nat) (p0_s_c : Nat) (p1_v : Int) (w : World) (R : Ending → World → Prop) : den Tryd.prog M45 c45 (argE 0 [(Value.slice p0_s_a p0_s_n p0_s_c), (Value.int IntKind.i64 p1_v)]) w (retK Tryd.prog Tryd.f45.results.toList R) =
(Call Tryd.prog 44 [Value.slice p0_s_a p0_s_n p0_s_c, Value.int IntKind.i64 p1_v] w fun e w' =>
  ∃ n, e = Ending.returned (Value.int IntKind.i64 n) ∧ R (Ending.returned (Value.bool (decide (n ≥ (0 : Int))))) w') := by kernel_rfl
end Go.Dav
