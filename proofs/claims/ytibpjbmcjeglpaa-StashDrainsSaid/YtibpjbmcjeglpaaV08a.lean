/- What functions of the program come to. -/
import Derived.Test.YtibpjbmcjeglpaaPrg08
namespace Go.Dav
open Go.Proofs
/-! davit/davitlaw08.StashPlays -/
def M3 : Mt := { N := 133, keep := [(0, [0, 1, 2]), (1, [0, 1, 2, 7, 8]), (2, [0, 2, 7, 8, 9, 10]), (3, [0, 2, 7, 9, 33]), (4, [6]), (5, [0, 2, 7, 9, 35]), (6, [6]), (7, [0, 2, 7, 9, 11]), (8, [0, 2, 7, 9, 11, 44]), (9, [0, 2, 7, 9, 11]), (10, [0, 2, 7, 9, 11, 89]), (11, [6]), (12, [0, 2, 7, 9, 11, 118]), (13, [6]), (14, [6])], ords := [(10, [0, 1, 2, 3, 4, 5, 6, 7, 8, 9, 11, 10, 12, 13, 14, 15, 16, 17, 19, 20, 21, 22, 18, 23, 24, 25, 26, 27, 28, 29, 30, 31, 32, 34, 35, 36, 37, 38, 39, 33, 40, 41, 42]), (12, [0, 1, 2, 3, 4, 5, 6, 7, 8, 9, 10, 11, 12, 13, 15, 16, 17, 18, 19, 20, 21, 22, 23, 24, 25, 14, 26, 27, 28])], bk := [(0, [0, 7]), (1, [0, 2, 7, 9, 11])], cuts := [(14, [0, 7])], lk := [(8, [0, 2, 7, 9, 11])] }
noncomputable def c3 : Code := bodyOf Try.f3
noncomputable def c3_0 : Code := c3.sr.sr.sr.sr.sr.sr
noncomputable def c3_1 : Code := c3.sr.sr.sr.sr.sr.sl.sr.sl.sl
def e3_0 (p0_cpus : Int) (p7_s : Option Addr) : Env := [(0, SV.v (Value.int IntKind.i64 p0_cpus)), (7, SV.v (Value.pointer p7_s))]
def e3_1 (p0_cpus : Int) (p2_acts_a : Option Addr) (p2_acts_n : Nat) (p2_acts_c : Nat) (p7_s : Option Addr) (p9_r : Option Addr) (p11_i : Int) : Env := [(0, SV.v (Value.int IntKind.i64 p0_cpus)), (2, SV.v (Value.slice p2_acts_a p2_acts_n p2_acts_c)), (7, SV.v (Value.pointer p7_s)), (9, SV.v (Value.pointer p9_r)), (11, SV.v (Value.int IntKind.i64 p11_i))]
def k3_0 (R : Ending → World → Prop) : Cont := retK Try.prog Try.f3.results.toList R
def k3_1 (R : Ending → World → Prop) : Cont := blockK 0 [0, 7] (seqK (fun E w => cutB (findL M3.cuts (headReg c3_0)) Try.prog M3 c3_0 E w (retK Try.prog Try.f3.results.toList R) fun E => den Try.prog M3 c3_0 E w (retK Try.prog Try.f3.results.toList R)) (retK Try.prog Try.f3.results.toList R))
theorem b3 : Try.f3.body = some c3 := by kernel_rfl
theorem n3 : Try.f3.ntmps = M3.N := by kernel_rfl
theorem u3 {p0_cpus : Int} {p1_pages : Int} {p2_acts_a : Option Addr} {p2_acts_n : Nat} {p2_acts_c : Nat} {w : World} {R : Ending → World → Prop} (h : den Try.prog M3 c3 (argE 0 [(Value.int IntKind.i64 p0_cpus), (Value.int IntKind.i64 p1_pages), (Value.slice p2_acts_a p2_acts_n p2_acts_c)]) w (retK Try.prog Try.f3.results.toList R)) : Calls Try.prog 3 #[(Value.int IntKind.i64 p0_cpus), (Value.int IntKind.i64 p1_pages), (Value.slice p2_acts_a p2_acts_n p2_acts_c)] w R := calls_den okProg Try.func3 b3 n3 (Nat.le_of_ble_eq_true rfl) h
theorem t3 (p0_cpus : Int) (p1_pages : Int) (p2_acts_a : Option Addr) (p2_acts_n : Nat) (p2_acts_c : Nat) (w : World) (R : Ending → World → Prop) : den Try.prog M3 c3 (argE 0 [(Value.int IntKind.i64 p0_cpus), (Value.int IntKind.i64 p1_pages), (Value.slice p2_acts_a p2_acts_n p2_acts_c)]) w (retK Try.prog Try.f3.results.toList R) =
(Call Try.prog 7 [Value.int IntKind.i64 p0_cpus, Value.int IntKind.i64 p1_pages] w fun e w' =>
  ∃ p n,
    e = Ending.returned (Value.tuple #[Value.pointer p, Value.int IntKind.i64 n]) ∧
      Call Try.prog 8 [Value.int IntKind.i64 p0_cpus, Value.int IntKind.i64 p1_pages] w' fun e w' =>
        ∃ p_1 n_1,
          e = Ending.returned (Value.tuple #[Value.pointer p_1, Value.int IntKind.i64 n_1]) ∧
            ((n != n_1) = false →
                ((!Option.isNone p == Option.isNone p_1) = true → R (Ending.returned (Value.bool false)) w') ∧
                  ((!Option.isNone p == Option.isNone p_1) = false →
                    (Option.isNone p_1 = true →
                        Call Try.prog 9 [] w' fun e w' =>
                          ∃ b, e = Ending.returned (Value.bool b) ∧ R (Ending.returned (Value.bool b)) w') ∧
                      (Option.isNone p_1 = false →
                        Cut
                          (WP Try.prog 133 (Code.loop c3_1)
                            (e3_1 p0_cpus p2_acts_a p2_acts_n p2_acts_c p p_1 (0 : Int)) w' (k3_1 R))))) ∧
              ((n != n_1) = true → R (Ending.returned (Value.bool false)) w')) := by kernel_rfl
theorem t3_0 (p0_cpus : Int) (p7_s : Option Addr) (w : World) (R : Ending → World → Prop) : den Try.prog M3 c3_0 (e3_0 p0_cpus p7_s) w (k3_0 R) =
(Call Try.prog 19 [Value.pointer p7_s, Value.int IntKind.i64 (-1 : Int)] w fun e w' =>
  ∃ p n c,
    e = Ending.returned (Value.slice p n c) ∧
      (((↑n : Int) == (0 : Int)) = true →
          Call Try.prog 19 [Value.pointer p7_s, Value.int IntKind.i64 p0_cpus] w' fun e w' =>
            ∃ p n c,
              e = Ending.returned (Value.slice p n c) ∧
                (((↑n : Int) == (0 : Int)) = true →
                    Call Try.prog 9 [] w' fun e w' =>
                      ∃ b, e = Ending.returned (Value.bool b) ∧ R (Ending.returned (Value.bool b)) w') ∧
                  (((↑n : Int) == (0 : Int)) = false → R (Ending.returned (Value.bool false)) w')) ∧
        (((↑n : Int) == (0 : Int)) = false → R (Ending.returned (Value.bool false)) w')) := by kernel_rfl
theorem t3_1 (p0_cpus : Int) (p2_acts_a : Option Addr) (p2_acts_n : Nat) (p2_acts_c : Nat) (p7_s : Option Addr) (p9_r : Option Addr) (p11_i : Int) (w : World) (B3_1 : Env → World → Prop) (R : Ending → World → Prop) : den Try.prog M3 c3_1 (e3_1 p0_cpus p2_acts_a p2_acts_n p2_acts_c p7_s p9_r p11_i) w (loopK B3_1 (k3_1 R)) =
((decide (p11_i < (↑p2_acts_n : Int)) = true →
    (decide (p11_i < (120 : Int)) = true →
        ∀ (w' : World),
          World.heap w' = World.heap w →
            World.os w' = World.os w →
              World.tape w' = World.tape w →
                World.output w' = World.output w →
                  ((0 : Int) ≤ p11_i ∧ p11_i < (↑p2_acts_n : Int)) ∧
                    ∃ a,
                      p2_acts_a = some a ∧
                        ∃ n,
                          World.cell? w' (Addr.add (Addr.add a (Int.toNat p11_i * 3)) 0) =
                              some (Value.int IntKind.i64 n) ∧
                            ∃ n_1,
                              World.cell? w' (Addr.add (Addr.add a (Int.toNat p11_i * 3)) 1) =
                                  some (Value.int IntKind.i64 n_1) ∧
                                ∃ n_2,
                                  World.cell? w' (Addr.add (Addr.add a (Int.toNat p11_i * 3)) 2) =
                                      some (Value.int IntKind.i64 n_2) ∧
                                    Call Try.prog 10
                                      [Value.pointer p7_s, Value.pointer p9_r,
                                        Value.agg
                                          #[Value.int IntKind.i64 n, Value.int IntKind.i64 n_1,
                                            Value.int IntKind.i64 n_2]]
                                      w' fun e w' =>
                                      ∃ b,
                                        e = Ending.returned (Value.bool b) ∧
                                          ((!b) = false →
                                              Call Try.prog 12 [Value.pointer p7_s] w' fun e w' =>
                                                ∃ p n c,
                                                  e = Ending.returned (Value.slice p n c) ∧
                                                    Call Try.prog 13 [Value.pointer p9_r] w' fun e w' =>
                                                      ∃ p_1 n_3 c_1,
                                                        e = Ending.returned (Value.slice p_1 n_3 c_1) ∧
                                                          Call Try.prog 11
                                                            [Value.slice p n c, Value.slice p_1 n_3 c_1] w' fun e w' =>
                                                            ∃ b,
                                                              e = Ending.returned (Value.bool b) ∧
                                                                ((!b) = false →
                                                                    ∃ a,
                                                                      p9_r = some a ∧
                                                                        ∃ p,
                                                                          World.cell? w' (Addr.add a 0) =
                                                                              some (Value.pointer p) ∧
                                                                            Call Try.prog 14
                                                                              [Value.pointer p7_s] w' fun e w' =>
                                                                              ∃ n,
                                                                                e =
                                                                                    Ending.returned
                                                                                      (Value.int IntKind.i64 n) ∧
                                                                                  World.cell? w'
                                                                                        (Addr.add a 0) =
                                                                                      some (Value.pointer p) ∧
                                                                                    Call Try.prog 15
                                                                                      [Value.pointer p] w' fun e w' =>
                                                                                      ∃ n_4,
                                                                                        e =
                                                                                            Ending.returned
                                                                                              (Value.int IntKind.i64
                                                                                                n_4) ∧
                                                                                          ((n != n_4) = false →
                                                                                              ((0 : Int) ≤ p11_i ∧
                                                                                                  p11_i <
                                                                                                    (↑p2_acts_n :
                                                                                                      Int)) ∧
                                                                                                ∃ a,
                                                                                                  p2_acts_a = some a ∧
                                                                                                    ∃ n,
                                                                                                      World.cell? w'
                                                                                                            (Addr.add
                                                                                                              (Addr.add
                                                                                                                a
                                                                                                                (Int.toNat
                                                                                                                    p11_i *
                                                                                                                  3))
                                                                                                              2) =
                                                                                                          some
                                                                                                            (Value.int
                                                                                                              IntKind.i64
                                                                                                              n) ∧
                                                                                                        ((0 : Int) ≤
                                                                                                              p11_i ∧
                                                                                                            p11_i <
                                                                                                              (↑p2_acts_n :
                                                                                                                Int)) ∧
                                                                                                          ∃ a,
                                                                                                            p2_acts_a =
                                                                                                                some a ∧
                                                                                                              ∃ n_5,
                                                                                                                World.cell?
                                                                                                                      w'
                                                                                                                      (Addr.add
                                                                                                                        (Addr.add
                                                                                                                          a
                                                                                                                          (Int.toNat
                                                                                                                              p11_i *
                                                                                                                            3))
                                                                                                                        2) =
                                                                                                                    some
                                                                                                                      (Value.int
                                                                                                                        IntKind.i64
                                                                                                                        n_5) ∧
                                                                                                                  Call
                                                                                                                    Try.prog
                                                                                                                    16
                                                                                                                    [Value.pointer
                                                                                                                        p7_s,
                                                                                                                      Value.int
                                                                                                                        IntKind.i64
                                                                                                                        n]
                                                                                                                    w'
                                                                                                                    fun
                                                                                                                      e
                                                                                                                      w' =>
                                                                                                                    ∃ b,
                                                                                                                      e =
                                                                                                                          Ending.returned
                                                                                                                            (Value.bool
                                                                                                                              b) ∧
                                                                                                                        World.cell?
                                                                                                                              w'
                                                                                                                              (Addr.add
                                                                                                                                (Addr.add
                                                                                                                                  a
                                                                                                                                  (Int.toNat
                                                                                                                                      p11_i *
                                                                                                                                    3))
                                                                                                                                2) =
                                                                                                                            some
                                                                                                                              (Value.int
                                                                                                                                IntKind.i64
                                                                                                                                n_5) ∧
                                                                                                                          Call
                                                                                                                            Try.prog
                                                                                                                            17
                                                                                                                            [Value.pointer
                                                                                                                                p9_r,
                                                                                                                              Value.int
                                                                                                                                IntKind.i64
                                                                                                                                n_5]
                                                                                                                            w'
                                                                                                                            fun
                                                                                                                              e
                                                                                                                              w' =>
                                                                                                                            ∃
                                                                                                                              b_1,
                                                                                                                              e =
                                                                                                                                  Ending.returned
                                                                                                                                    (Value.bool
                                                                                                                                      b_1) ∧
                                                                                                                                ((!b ==
                                                                                                                                          b_1) =
                                                                                                                                      true →
                                                                                                                                    R
                                                                                                                                      (Ending.returned
                                                                                                                                        (Value.bool
                                                                                                                                          false))
                                                                                                                                      w') ∧
                                                                                                                                  ((!b ==
                                                                                                                                          b_1) =
                                                                                                                                      false →
                                                                                                                                    ∀
                                                                                                                                      (w'_1 :
                                                                                                                                        World),
                                                                                                                                      World.heap
                                                                                                                                            w'_1 =
                                                                                                                                          World.heap
                                                                                                                                            w' →
                                                                                                                                        World.os
                                                                                                                                              w'_1 =
                                                                                                                                            World.os
                                                                                                                                              w' →
                                                                                                                                          World.tape
                                                                                                                                                w'_1 =
                                                                                                                                              World.tape
                                                                                                                                                w' →
                                                                                                                                            World.output
                                                                                                                                                  w'_1 =
                                                                                                                                                World.output
                                                                                                                                                  w' →
                                                                                                                                              ((0 :
                                                                                                                                                      Int) ≤
                                                                                                                                                    p11_i ∧
                                                                                                                                                  p11_i <
                                                                                                                                                    (↑p2_acts_n :
                                                                                                                                                      Int)) ∧
                                                                                                                                                ∃
                                                                                                                                                  a,
                                                                                                                                                  p2_acts_a =
                                                                                                                                                      some
                                                                                                                                                        a ∧
                                                                                                                                                    ∃
                                                                                                                                                      n,
                                                                                                                                                      World.cell?
                                                                                                                                                            w'_1
                                                                                                                                                            (Addr.add
                                                                                                                                                              (Addr.add
                                                                                                                                                                a
                                                                                                                                                                (Int.toNat
                                                                                                                                                                    p11_i *
                                                                                                                                                                  3))
                                                                                                                                                              1) =
                                                                                                                                                          some
                                                                                                                                                            (Value.int
                                                                                                                                                              IntKind.i64
                                                                                                                                                              n) ∧
                                                                                                                                                        Call
                                                                                                                                                          Try.prog
                                                                                                                                                          18
                                                                                                                                                          [Value.pointer
                                                                                                                                                              p9_r,
                                                                                                                                                            Value.int
                                                                                                                                                              IntKind.i64
                                                                                                                                                              n]
                                                                                                                                                          w'_1
                                                                                                                                                          fun
                                                                                                                                                            e
                                                                                                                                                            w' =>
                                                                                                                                                          ∃
                                                                                                                                                            b,
                                                                                                                                                            e =
                                                                                                                                                                Ending.returned
                                                                                                                                                                  (Value.bool
                                                                                                                                                                    b) ∧
                                                                                                                                                              (b =
                                                                                                                                                                    true →
                                                                                                                                                                  ((0 :
                                                                                                                                                                          Int) ≤
                                                                                                                                                                        p11_i ∧
                                                                                                                                                                      p11_i <
                                                                                                                                                                        (↑p2_acts_n :
                                                                                                                                                                          Int)) ∧
                                                                                                                                                                    ∃
                                                                                                                                                                      a,
                                                                                                                                                                      p2_acts_a =
                                                                                                                                                                          some
                                                                                                                                                                            a ∧
                                                                                                                                                                        ∃
                                                                                                                                                                          n,
                                                                                                                                                                          World.cell?
                                                                                                                                                                                w'
                                                                                                                                                                                (Addr.add
                                                                                                                                                                                  (Addr.add
                                                                                                                                                                                    a
                                                                                                                                                                                    (Int.toNat
                                                                                                                                                                                        p11_i *
                                                                                                                                                                                      3))
                                                                                                                                                                                  1) =
                                                                                                                                                                              some
                                                                                                                                                                                (Value.int
                                                                                                                                                                                  IntKind.i64
                                                                                                                                                                                  n) ∧
                                                                                                                                                                            ∃
                                                                                                                                                                              a,
                                                                                                                                                                              p9_r =
                                                                                                                                                                                  some
                                                                                                                                                                                    a ∧
                                                                                                                                                                                ∃
                                                                                                                                                                                  p
                                                                                                                                                                                  n_6
                                                                                                                                                                                  c,
                                                                                                                                                                                  World.cell?
                                                                                                                                                                                        w'
                                                                                                                                                                                        (Addr.add
                                                                                                                                                                                          a
                                                                                                                                                                                          1) =
                                                                                                                                                                                      some
                                                                                                                                                                                        (Value.slice
                                                                                                                                                                                          p
                                                                                                                                                                                          n_6
                                                                                                                                                                                          c) ∧
                                                                                                                                                                                    ((0 :
                                                                                                                                                                                            Int) ≤
                                                                                                                                                                                          p11_i ∧
                                                                                                                                                                                        p11_i <
                                                                                                                                                                                          (↑p2_acts_n :
                                                                                                                                                                                            Int)) ∧
                                                                                                                                                                                      ∃
                                                                                                                                                                                        a_1,
                                                                                                                                                                                        p2_acts_a =
                                                                                                                                                                                            some
                                                                                                                                                                                              a_1 ∧
                                                                                                                                                                                          ∃
                                                                                                                                                                                            n_7,
                                                                                                                                                                                            World.cell?
                                                                                                                                                                                                  w'
                                                                                                                                                                                                  (Addr.add
                                                                                                                                                                                                    (Addr.add
                                                                                                                                                                                                      a_1
                                                                                                                                                                                                      (Int.toNat
                                                                                                                                                                                                          p11_i *
                                                                                                                                                                                                        3))
                                                                                                                                                                                                    1) =
                                                                                                                                                                                                some
                                                                                                                                                                                                  (Value.int
                                                                                                                                                                                                    IntKind.i64
                                                                                                                                                                                                    n_7) ∧
                                                                                                                                                                                              ((0 :
                                                                                                                                                                                                      Int) ≤
                                                                                                                                                                                                    n_7 ∧
                                                                                                                                                                                                  n_7 <
                                                                                                                                                                                                    (↑n_6 :
                                                                                                                                                                                                      Int)) ∧
                                                                                                                                                                                                ∃
                                                                                                                                                                                                  a_2,
                                                                                                                                                                                                  p =
                                                                                                                                                                                                      some
                                                                                                                                                                                                        a_2 ∧
                                                                                                                                                                                                    ∃
                                                                                                                                                                                                      p_2
                                                                                                                                                                                                      n_8
                                                                                                                                                                                                      c_2,
                                                                                                                                                                                                      World.cell?
                                                                                                                                                                                                            w'
                                                                                                                                                                                                            (Addr.add
                                                                                                                                                                                                              a_2
                                                                                                                                                                                                              (Int.toNat
                                                                                                                                                                                                                  n_7 *
                                                                                                                                                                                                                1)) =
                                                                                                                                                                                                          some
                                                                                                                                                                                                            (Value.slice
                                                                                                                                                                                                              p_2
                                                                                                                                                                                                              n_8
                                                                                                                                                                                                              c_2) ∧
                                                                                                                                                                                                        Call
                                                                                                                                                                                                          Try.prog
                                                                                                                                                                                                          19
                                                                                                                                                                                                          [Value.pointer
                                                                                                                                                                                                              p7_s,
                                                                                                                                                                                                            Value.int
                                                                                                                                                                                                              IntKind.i64
                                                                                                                                                                                                              n]
                                                                                                                                                                                                          w'
                                                                                                                                                                                                          fun
                                                                                                                                                                                                            e
                                                                                                                                                                                                            w' =>
                                                                                                                                                                                                          ∃
                                                                                                                                                                                                            p_3
                                                                                                                                                                                                            n
                                                                                                                                                                                                            c_3,
                                                                                                                                                                                                            e =
                                                                                                                                                                                                                Ending.returned
                                                                                                                                                                                                                  (Value.slice
                                                                                                                                                                                                                    p_3
                                                                                                                                                                                                                    n
                                                                                                                                                                                                                    c_3) ∧
                                                                                                                                                                                                              World.cell?
                                                                                                                                                                                                                    w'
                                                                                                                                                                                                                    (Addr.add
                                                                                                                                                                                                                      a_2
                                                                                                                                                                                                                      (Int.toNat
                                                                                                                                                                                                                          n_7 *
                                                                                                                                                                                                                        1)) =
                                                                                                                                                                                                                  some
                                                                                                                                                                                                                    (Value.slice
                                                                                                                                                                                                                      p_2
                                                                                                                                                                                                                      n_8
                                                                                                                                                                                                                      c_2) ∧
                                                                                                                                                                                                                World.cell?
                                                                                                                                                                                                                      w'
                                                                                                                                                                                                                      (Addr.add
                                                                                                                                                                                                                        (Addr.add
                                                                                                                                                                                                                          a_1
                                                                                                                                                                                                                          (Int.toNat
                                                                                                                                                                                                                              p11_i *
                                                                                                                                                                                                                            3))
                                                                                                                                                                                                                        1) =
                                                                                                                                                                                                                    some
                                                                                                                                                                                                                      (Value.int
                                                                                                                                                                                                                        IntKind.i64
                                                                                                                                                                                                                        n_7) ∧
                                                                                                                                                                                                                  World.cell?
                                                                                                                                                                                                                        w'
                                                                                                                                                                                                                        (Addr.add
                                                                                                                                                                                                                          a
                                                                                                                                                                                                                          1) =
                                                                                                                                                                                                                      some
                                                                                                                                                                                                                        (Value.slice
                                                                                                                                                                                                                          p
                                                                                                                                                                                                                          n_6
                                                                                                                                                                                                                          c) ∧
                                                                                                                                                                                                                    Call
                                                                                                                                                                                                                      Try.prog
                                                                                                                                                                                                                      11
                                                                                                                                                                                                                      [Value.slice
                                                                                                                                                                                                                          p_3
                                                                                                                                                                                                                          n
                                                                                                                                                                                                                          c_3,
                                                                                                                                                                                                                        Value.slice
                                                                                                                                                                                                                          p_2
                                                                                                                                                                                                                          n_8
                                                                                                                                                                                                                          c_2]
                                                                                                                                                                                                                      w'
                                                                                                                                                                                                                      fun
                                                                                                                                                                                                                        e
                                                                                                                                                                                                                        w' =>
                                                                                                                                                                                                                      ∃
                                                                                                                                                                                                                        b,
                                                                                                                                                                                                                        e =
                                                                                                                                                                                                                            Ending.returned
                                                                                                                                                                                                                              (Value.bool
                                                                                                                                                                                                                                b) ∧
                                                                                                                                                                                                                          ((!b) =
                                                                                                                                                                                                                                true →
                                                                                                                                                                                                                              R
                                                                                                                                                                                                                                (Ending.returned
                                                                                                                                                                                                                                  (Value.bool
                                                                                                                                                                                                                                    false))
                                                                                                                                                                                                                                w') ∧
                                                                                                                                                                                                                            ((!b) =
                                                                                                                                                                                                                                false →
                                                                                                                                                                                                                              B3_1
                                                                                                                                                                                                                                [(0,
                                                                                                                                                                                                                                    SV.v
                                                                                                                                                                                                                                      (Value.int
                                                                                                                                                                                                                                        IntKind.i64
                                                                                                                                                                                                                                        p0_cpus)),
                                                                                                                                                                                                                                  (2,
                                                                                                                                                                                                                                    SV.v
                                                                                                                                                                                                                                      (Value.slice
                                                                                                                                                                                                                                        p2_acts_a
                                                                                                                                                                                                                                        p2_acts_n
                                                                                                                                                                                                                                        p2_acts_c)),
                                                                                                                                                                                                                                  (7,
                                                                                                                                                                                                                                    SV.v
                                                                                                                                                                                                                                      (Value.pointer
                                                                                                                                                                                                                                        p7_s)),
                                                                                                                                                                                                                                  (9,
                                                                                                                                                                                                                                    SV.v
                                                                                                                                                                                                                                      (Value.pointer
                                                                                                                                                                                                                                        p9_r)),
                                                                                                                                                                                                                                  (11,
                                                                                                                                                                                                                                    SV.v
                                                                                                                                                                                                                                      (Value.int
                                                                                                                                                                                                                                        IntKind.i64
                                                                                                                                                                                                                                        (IntKind.wrap
                                                                                                                                                                                                                                          IntKind.i64
                                                                                                                                                                                                                                          (p11_i +
                                                                                                                                                                                                                                            (1 :
                                                                                                                                                                                                                                              Int)))))]
                                                                                                                                                                                                                                w')) ∧
                                                                                                                                                                (b =
                                                                                                                                                                    false →
                                                                                                                                                                  B3_1
                                                                                                                                                                    [(0,
                                                                                                                                                                        SV.v
                                                                                                                                                                          (Value.int
                                                                                                                                                                            IntKind.i64
                                                                                                                                                                            p0_cpus)),
                                                                                                                                                                      (2,
                                                                                                                                                                        SV.v
                                                                                                                                                                          (Value.slice
                                                                                                                                                                            p2_acts_a
                                                                                                                                                                            p2_acts_n
                                                                                                                                                                            p2_acts_c)),
                                                                                                                                                                      (7,
                                                                                                                                                                        SV.v
                                                                                                                                                                          (Value.pointer
                                                                                                                                                                            p7_s)),
                                                                                                                                                                      (9,
                                                                                                                                                                        SV.v
                                                                                                                                                                          (Value.pointer
                                                                                                                                                                            p9_r)),
                                                                                                                                                                      (11,
                                                                                                                                                                        SV.v
                                                                                                                                                                          (Value.int
                                                                                                                                                                            IntKind.i64
                                                                                                                                                                            (IntKind.wrap
                                                                                                                                                                              IntKind.i64
                                                                                                                                                                              (p11_i +
                                                                                                                                                                                (1 :
                                                                                                                                                                                  Int)))))]
                                                                                                                                                                    w'))) ∧
                                                                                            ((n != n_4) = true →
                                                                                              R
                                                                                                (Ending.returned
                                                                                                  (Value.bool false))
                                                                                                w')) ∧
                                                                  ((!b) = true →
                                                                    R (Ending.returned (Value.bool false)) w')) ∧
                                            ((!b) = true → R (Ending.returned (Value.bool false)) w')) ∧
      (decide (p11_i < (120 : Int)) = false → CutD Try.prog M3 c3_0 (e3_0 p0_cpus p7_s) w (k3_0 R))) ∧
  (decide (p11_i < (↑p2_acts_n : Int)) = false → CutD Try.prog M3 c3_0 (e3_0 p0_cpus p7_s) w (k3_0 R))) := by kernel_rfl
/-! davit/davitlaw08.StashOnce -/
def M4 : Mt := { N := 152, keep := [(0, [0, 1, 2]), (1, [0, 1, 2, 7, 8]), (2, [0, 1, 2, 7, 22]), (3, [6]), (4, [0, 1, 2, 7, 9]), (5, [0, 1, 2, 7, 9, 47]), (6, [0, 1, 2, 7, 9]), (7, [0, 1, 2, 7, 9, 55]), (8, [0, 1, 2, 7, 9]), (9, [0, 1, 2, 7, 9, 55, 63]), (10, [0, 1, 2, 7, 9]), (11, [0, 1, 2, 7, 9, 72]), (12, [0, 1, 2, 7, 9]), (13, [0, 1, 7, 10]), (14, [0, 1, 7, 10, 11]), (15, [0, 1, 7, 10, 11, 12]), (16, [0, 1, 7, 10, 11, 12, 94]), (17, [0, 1, 7, 10, 11, 12]), (18, [0, 1, 7, 10, 11, 12, 13]), (19, [0, 1, 7, 10, 11, 12, 13, 102]), (20, [6]), (21, [0, 1, 7, 10, 11, 12]), (22, [1, 7, 10, 11, 14]), (23, [1, 7, 10, 11, 14, 109]), (24, [1, 7, 10, 11, 14]), (25, [1, 7, 10, 11, 14, 134]), (26, [6]), (27, [1, 7, 10, 11, 14]), (28, [6])], ords := [(12, [0, 1, 2, 3, 4, 5, 6, 7, 8, 9, 10, 11])], bk := [(0, [0, 1, 7]), (1, [0, 1, 2, 7, 9]), (2, [0, 1, 2, 7, 9]), (3, [1, 7, 10, 11]), (4, [0, 1, 7, 10, 11, 12]), (5, [1, 7, 11]), (6, [1, 7, 10, 11, 14])], cuts := [(13, [0, 1, 7]), (22, [1, 7, 10, 11]), (28, [1, 7, 11])], lk := [(5, [0, 1, 2, 7, 9]), (16, [0, 1, 7, 10, 11, 12]), (23, [1, 7, 10, 11, 14])] }
noncomputable def c4 : Code := bodyOf Try.f4
noncomputable def c4_0 : Code := c4.sr.sr.sr.sr
noncomputable def c4_1 : Code := c4.sr.sr.sr.sl.sr.sl.sl
noncomputable def c4_2 : Code := c4.sr.sr.sr.sr.sr.sr.sr
noncomputable def c4_3 : Code := c4.sr.sr.sr.sr.sr.sr.sr.sr
noncomputable def c4_4 : Code := c4.sr.sr.sr.sr.sr.sr.sl.sr.sl.sl
noncomputable def c4_5 : Code := c4.sr.sr.sr.sr.sr.sr.sr.sl.sr.sl.sl
def e4_0 (p0_cpus : Int) (p1_pages : Int) (p7_s : Option Addr) : Env := [(0, SV.v (Value.int IntKind.i64 p0_cpus)), (1, SV.v (Value.int IntKind.i64 p1_pages)), (7, SV.v (Value.pointer p7_s))]
def e4_1 (p0_cpus : Int) (p1_pages : Int) (p2_acts_a : Option Addr) (p2_acts_n : Nat) (p2_acts_c : Nat) (p7_s : Option Addr) (p9_i : Int) : Env := [(0, SV.v (Value.int IntKind.i64 p0_cpus)), (1, SV.v (Value.int IntKind.i64 p1_pages)), (2, SV.v (Value.slice p2_acts_a p2_acts_n p2_acts_c)), (7, SV.v (Value.pointer p7_s)), (9, SV.v (Value.int IntKind.i64 p9_i))]
def e4_2 (p1_pages : Int) (p7_s : Option Addr) (p10_seen_a : Option Addr) (p10_seen_n : Nat) (p10_seen_c : Nat) (p11_l_a : Option Addr) (p11_l_n : Nat) (p11_l_c : Nat) : Env := [(1, SV.v (Value.int IntKind.i64 p1_pages)), (7, SV.v (Value.pointer p7_s)), (10, SV.v (Value.slice p10_seen_a p10_seen_n p10_seen_c)), (11, SV.v (Value.slice p11_l_a p11_l_n p11_l_c))]
def e4_4 (p0_cpus : Int) (p1_pages : Int) (p7_s : Option Addr) (p10_seen_a : Option Addr) (p10_seen_n : Nat) (p10_seen_c : Nat) (p11_l_a : Option Addr) (p11_l_n : Nat) (p11_l_c : Nat) (p12_c : Int) : Env := [(0, SV.v (Value.int IntKind.i64 p0_cpus)), (1, SV.v (Value.int IntKind.i64 p1_pages)), (7, SV.v (Value.pointer p7_s)), (10, SV.v (Value.slice p10_seen_a p10_seen_n p10_seen_c)), (11, SV.v (Value.slice p11_l_a p11_l_n p11_l_c)), (12, SV.v (Value.int IntKind.i64 p12_c))]
def e4_3 (p1_pages : Int) (p7_s : Option Addr) (p11_l_a : Option Addr) (p11_l_n : Nat) (p11_l_c : Nat) : Env := [(1, SV.v (Value.int IntKind.i64 p1_pages)), (7, SV.v (Value.pointer p7_s)), (11, SV.v (Value.slice p11_l_a p11_l_n p11_l_c))]
def e4_5 (p1_pages : Int) (p7_s : Option Addr) (p10_seen_a : Option Addr) (p10_seen_n : Nat) (p10_seen_c : Nat) (p11_l_a : Option Addr) (p11_l_n : Nat) (p11_l_c : Nat) (p14_i : Int) : Env := [(1, SV.v (Value.int IntKind.i64 p1_pages)), (7, SV.v (Value.pointer p7_s)), (10, SV.v (Value.slice p10_seen_a p10_seen_n p10_seen_c)), (11, SV.v (Value.slice p11_l_a p11_l_n p11_l_c)), (14, SV.v (Value.int IntKind.i64 p14_i))]
def k4_0 (R : Ending → World → Prop) : Cont := retK Try.prog Try.f4.results.toList R
def k4_1 (R : Ending → World → Prop) : Cont := blockK 0 [0, 1, 7] (seqK (fun E w => cutB (findL M4.cuts (headReg c4_0)) Try.prog M4 c4_0 E w (retK Try.prog Try.f4.results.toList R) fun E => den Try.prog M4 c4_0 E w (retK Try.prog Try.f4.results.toList R)) (retK Try.prog Try.f4.results.toList R))
def k4_2 (R : Ending → World → Prop) : Cont := retK Try.prog Try.f4.results.toList R
def k4_4 (R : Ending → World → Prop) : Cont := blockK 3 [1, 7, 10, 11] (seqK (fun E w => cutB (findL M4.cuts (headReg c4_2)) Try.prog M4 c4_2 E w (retK Try.prog Try.f4.results.toList R) fun E => den Try.prog M4 c4_2 E w (retK Try.prog Try.f4.results.toList R)) (retK Try.prog Try.f4.results.toList R))
def k4_3 (R : Ending → World → Prop) : Cont := retK Try.prog Try.f4.results.toList R
def k4_5 (R : Ending → World → Prop) : Cont := blockK 5 [1, 7, 11] (seqK (fun E w => cutB (findL M4.cuts (headReg c4_3)) Try.prog M4 c4_3 E w (retK Try.prog Try.f4.results.toList R) fun E => den Try.prog M4 c4_3 E w (retK Try.prog Try.f4.results.toList R)) (retK Try.prog Try.f4.results.toList R))
theorem b4 : Try.f4.body = some c4 := by kernel_rfl
theorem n4 : Try.f4.ntmps = M4.N := by kernel_rfl
theorem u4 {p0_cpus : Int} {p1_pages : Int} {p2_acts_a : Option Addr} {p2_acts_n : Nat} {p2_acts_c : Nat} {w : World} {R : Ending → World → Prop} (h : den Try.prog M4 c4 (argE 0 [(Value.int IntKind.i64 p0_cpus), (Value.int IntKind.i64 p1_pages), (Value.slice p2_acts_a p2_acts_n p2_acts_c)]) w (retK Try.prog Try.f4.results.toList R)) : Calls Try.prog 4 #[(Value.int IntKind.i64 p0_cpus), (Value.int IntKind.i64 p1_pages), (Value.slice p2_acts_a p2_acts_n p2_acts_c)] w R := calls_den okProg Try.func4 b4 n4 (Nat.le_of_ble_eq_true rfl) h
theorem t4 (p0_cpus : Int) (p1_pages : Int) (p2_acts_a : Option Addr) (p2_acts_n : Nat) (p2_acts_c : Nat) (w : World) (R : Ending → World → Prop) : den Try.prog M4 c4 (argE 0 [(Value.int IntKind.i64 p0_cpus), (Value.int IntKind.i64 p1_pages), (Value.slice p2_acts_a p2_acts_n p2_acts_c)]) w (retK Try.prog Try.f4.results.toList R) =
(Call Try.prog 7 [Value.int IntKind.i64 p0_cpus, Value.int IntKind.i64 p1_pages] w fun e w' =>
  ∃ p n,
    e = Ending.returned (Value.tuple #[Value.pointer p, Value.int IntKind.i64 n]) ∧
      ((n != (0 : Int)) = true →
          (decide (p0_cpus < (1 : Int)) = false →
              (decide (p0_cpus > (64 : Int)) = false →
                  (decide (p1_pages < (1 : Int)) = false →
                      (decide (p1_pages > (12 : Int)) = true →
                          Call Try.prog 9 [] w' fun e w' =>
                            ∃ b, e = Ending.returned (Value.bool b) ∧ R (Ending.returned (Value.bool b)) w') ∧
                        (decide (p1_pages > (12 : Int)) = false → R (Ending.returned (Value.bool false)) w')) ∧
                    (decide (p1_pages < (1 : Int)) = true →
                      Call Try.prog 9 [] w' fun e w' =>
                        ∃ b, e = Ending.returned (Value.bool b) ∧ R (Ending.returned (Value.bool b)) w')) ∧
                (decide (p0_cpus > (64 : Int)) = true →
                  Call Try.prog 9 [] w' fun e w' =>
                    ∃ b, e = Ending.returned (Value.bool b) ∧ R (Ending.returned (Value.bool b)) w')) ∧
            (decide (p0_cpus < (1 : Int)) = true →
              Call Try.prog 9 [] w' fun e w' =>
                ∃ b, e = Ending.returned (Value.bool b) ∧ R (Ending.returned (Value.bool b)) w')) ∧
        ((n != (0 : Int)) = false →
          Cut
            (WP Try.prog 152 (Code.loop c4_1)
              (e4_1 p0_cpus p1_pages p2_acts_a p2_acts_n p2_acts_c p (0 : Int)) w' (k4_1 R)))) := by kernel_rfl
theorem t4_0 (p0_cpus : Int) (p1_pages : Int) (p7_s : Option Addr) (w : World) (R : Ending → World → Prop) : den Try.prog M4 c4_0 (e4_0 p0_cpus p1_pages p7_s) w (k4_0 R) =
(∃ p n c w',
  Sem.run Try.prog
        (Instr.makeSlice 48
          (Value.int IntKind.i64
            (IntKind.wrap IntKind.i64 (IntKind.wrap IntKind.i64 ((8 : Int) * p1_pages) + (1 : Int))))
          (Value.int IntKind.i64
            (IntKind.wrap IntKind.i64 (IntKind.wrap IntKind.i64 ((8 : Int) * p1_pages) + (1 : Int)))))
        w =
      Result.ok (Value.slice p n c) w' ∧
    Call Try.prog 12 [Value.pointer p7_s] w' fun e w' =>
      ∃ p_1 n_1 c_1,
        e = Ending.returned (Value.slice p_1 n_1 c_1) ∧
          Cut
            (WP Try.prog 152 (Code.loop c4_4) (e4_4 p0_cpus p1_pages p7_s p n c p_1 n_1 c_1 (0 : Int)) w'
              (k4_4 R))) := by kernel_rfl
theorem t4_1 (p0_cpus : Int) (p1_pages : Int) (p2_acts_a : Option Addr) (p2_acts_n : Nat) (p2_acts_c : Nat) (p7_s : Option Addr) (p9_i : Int) (w : World) (B4_1 : Env → World → Prop) (R : Ending → World → Prop) : den Try.prog M4 c4_1 (e4_1 p0_cpus p1_pages p2_acts_a p2_acts_n p2_acts_c p7_s p9_i) w (loopK B4_1 (k4_1 R)) =
((decide (p9_i < (↑p2_acts_n : Int)) = true →
    (decide (p9_i < (120 : Int)) = true →
        ((0 : Int) ≤ p9_i ∧ p9_i < (↑p2_acts_n : Int)) ∧
          ∃ a,
            p2_acts_a = some a ∧
              ∃ n,
                World.cell? w (Addr.add (Addr.add a (Int.toNat p9_i * 3)) 0) =
                    some (Value.int IntKind.i64 n) ∧
                  (3 : Int) ≠ (0 : Int) ∧
                    ((Int.tmod n (3 : Int) == (0 : Int)) = true →
                        ((0 : Int) ≤ p9_i ∧ p9_i < (↑p2_acts_n : Int)) ∧
                          ∃ a,
                            p2_acts_a = some a ∧
                              ∃ n,
                                World.cell? w (Addr.add (Addr.add a (Int.toNat p9_i * 3)) 1) =
                                    some (Value.int IntKind.i64 n) ∧
                                  Call Try.prog 20 [Value.pointer p7_s, Value.int IntKind.i64 n] w fun e w' =>
                                    ∃ n n_1,
                                      e =
                                          Ending.returned
                                            (Value.tuple #[Value.int IntKind.i64 n, Value.int IntKind.i64 n_1]) ∧
                                        B4_1
                                          [(0, SV.v (Value.int IntKind.i64 p0_cpus)),
                                            (1, SV.v (Value.int IntKind.i64 p1_pages)),
                                            (2, SV.v (Value.slice p2_acts_a p2_acts_n p2_acts_c)),
                                            (7, SV.v (Value.pointer p7_s)),
                                            (9,
                                              SV.v
                                                (Value.int IntKind.i64 (IntKind.wrap IntKind.i64 (p9_i + (1 : Int)))))]
                                          w') ∧
                      ((Int.tmod n (3 : Int) == (0 : Int)) = false →
                        ((Int.tmod n (3 : Int) == (1 : Int)) = true →
                            ∀ (w' : World),
                              World.heap w' = World.heap w →
                                World.os w' = World.os w →
                                  World.tape w' = World.tape w →
                                    World.output w' = World.output w →
                                      ((0 : Int) ≤ p9_i ∧ p9_i < (↑p2_acts_n : Int)) ∧
                                        ∃ a,
                                          p2_acts_a = some a ∧
                                            ∃ n,
                                              World.cell? w'
                                                    (Addr.add (Addr.add a (Int.toNat p9_i * 3)) 1) =
                                                  some (Value.int IntKind.i64 n) ∧
                                                ((0 : Int) ≤ p9_i ∧ p9_i < (↑p2_acts_n : Int)) ∧
                                                  ∃ a,
                                                    p2_acts_a = some a ∧
                                                      ∃ n_1,
                                                        World.cell? w'
                                                              (Addr.add (Addr.add a (Int.toNat p9_i * 3))
                                                                2) =
                                                            some (Value.int IntKind.i64 n_1) ∧
                                                          Call Try.prog 21
                                                            [Value.pointer p7_s, Value.int IntKind.i64 n,
                                                              Value.int IntKind.i64 n_1]
                                                            w' fun e w' =>
                                                            ∃ n,
                                                              e = Ending.returned (Value.int IntKind.i64 n) ∧
                                                                B4_1
                                                                  [(0, SV.v (Value.int IntKind.i64 p0_cpus)),
                                                                    (1, SV.v (Value.int IntKind.i64 p1_pages)),
                                                                    (2,
                                                                      SV.v
                                                                        (Value.slice p2_acts_a p2_acts_n p2_acts_c)),
                                                                    (7, SV.v (Value.pointer p7_s)),
                                                                    (9,
                                                                      SV.v
                                                                        (Value.int IntKind.i64
                                                                          (IntKind.wrap IntKind.i64
                                                                            (p9_i + (1 : Int)))))]
                                                                  w') ∧
                          ((Int.tmod n (3 : Int) == (1 : Int)) = false →
                            ((0 : Int) ≤ p9_i ∧ p9_i < (↑p2_acts_n : Int)) ∧
                              ∃ a,
                                p2_acts_a = some a ∧
                                  ∃ n,
                                    World.cell? w (Addr.add (Addr.add a (Int.toNat p9_i * 3)) 1) =
                                        some (Value.int IntKind.i64 n) ∧
                                      Call Try.prog 22 [Value.pointer p7_s, Value.int IntKind.i64 n] w
                                        fun e w' =>
                                        ∃ n n_1,
                                          e =
                                              Ending.returned
                                                (Value.tuple #[Value.int IntKind.i64 n, Value.int IntKind.i64 n_1]) ∧
                                            B4_1
                                              [(0, SV.v (Value.int IntKind.i64 p0_cpus)),
                                                (1, SV.v (Value.int IntKind.i64 p1_pages)),
                                                (2, SV.v (Value.slice p2_acts_a p2_acts_n p2_acts_c)),
                                                (7, SV.v (Value.pointer p7_s)),
                                                (9,
                                                  SV.v
                                                    (Value.int IntKind.i64
                                                      (IntKind.wrap IntKind.i64 (p9_i + (1 : Int)))))]
                                              w'))) ∧
      (decide (p9_i < (120 : Int)) = false → CutD Try.prog M4 c4_0 (e4_0 p0_cpus p1_pages p7_s) w (k4_0 R))) ∧
  (decide (p9_i < (↑p2_acts_n : Int)) = false → CutD Try.prog M4 c4_0 (e4_0 p0_cpus p1_pages p7_s) w (k4_0 R))) := by kernel_rfl
theorem t4_2 (p1_pages : Int) (p7_s : Option Addr) (p10_seen_a : Option Addr) (p10_seen_n : Nat) (p10_seen_c : Nat) (p11_l_a : Option Addr) (p11_l_n : Nat) (p11_l_c : Nat) (w : World) (R : Ending → World → Prop) : den Try.prog M4 c4_2 (e4_2 p1_pages p7_s p10_seen_a p10_seen_n p10_seen_c p11_l_a p11_l_n p11_l_c) w (k4_2 R) =
(Cut
  (WP Try.prog 152 (Code.loop c4_5)
    (e4_5 p1_pages p7_s p10_seen_a p10_seen_n p10_seen_c p11_l_a p11_l_n p11_l_c (0 : Int)) w (k4_5 R))) := by kernel_rfl
theorem t4_4 (p0_cpus : Int) (p1_pages : Int) (p7_s : Option Addr) (p10_seen_a : Option Addr) (p10_seen_n : Nat) (p10_seen_c : Nat) (p11_l_a : Option Addr) (p11_l_n : Nat) (p11_l_c : Nat) (p12_c : Int) (w : World) (B4_4 : Env → World → Prop) (R : Ending → World → Prop) : den Try.prog M4 c4_4 (e4_4 p0_cpus p1_pages p7_s p10_seen_a p10_seen_n p10_seen_c p11_l_a p11_l_n p11_l_c p12_c) w (loopK B4_4 (k4_4 R)) =
((decide (p12_c < p0_cpus) = true →
    Call Try.prog 19 [Value.pointer p7_s, Value.int IntKind.i64 p12_c] w fun e w' =>
      ∃ p n c,
        e = Ending.returned (Value.slice p n c) ∧
          (decide ((↑n : Int) > (4 : Int)) = true → R (Ending.returned (Value.bool false)) w') ∧
            (decide ((↑n : Int) > (4 : Int)) = false →
              ∃ p_1 n_1 c_1 w'_1,
                Sem.run Try.prog
                      (Builtin.append_ #[35, 35] 35
                        #[Value.slice p11_l_a p11_l_n p11_l_c, Value.slice p n c])
                      w' =
                    Result.ok (Value.slice p_1 n_1 c_1) w'_1 ∧
                  B4_4
                    [(0, SV.v (Value.int IntKind.i64 p0_cpus)),
                      (1, SV.v (Value.int IntKind.i64 p1_pages)), (7, SV.v (Value.pointer p7_s)),
                      (10, SV.v (Value.slice p10_seen_a p10_seen_n p10_seen_c)),
                      (11, SV.v (Value.slice p_1 n_1 c_1)),
                      (12, SV.v (Value.int IntKind.i64 (IntKind.wrap IntKind.i64 (p12_c + (1 : Int)))))]
                    w'_1)) ∧
  (decide (p12_c < p0_cpus) = false →
    CutD Try.prog M4 c4_2 (e4_2 p1_pages p7_s p10_seen_a p10_seen_n p10_seen_c p11_l_a p11_l_n p11_l_c) w
      (k4_2 R))) := by kernel_rfl
theorem t4_3 (p1_pages : Int) (p7_s : Option Addr) (p11_l_a : Option Addr) (p11_l_n : Nat) (p11_l_c : Nat) (w : World) (R : Ending → World → Prop) : den Try.prog M4 c4_3 (e4_3 p1_pages p7_s p11_l_a p11_l_n p11_l_c) w (k4_3 R) =
(Call Try.prog 14 [Value.pointer p7_s] w fun e w' =>
  ∃ n,
    e = Ending.returned (Value.int IntKind.i64 n) ∧
      ((IntKind.wrap IntKind.i64 ((↑p11_l_n : Int) + n) == IntKind.wrap IntKind.i64 ((8 : Int) * p1_pages)) = true →
          Call Try.prog 9 [] w' fun e w' =>
            ∃ b, e = Ending.returned (Value.bool b) ∧ R (Ending.returned (Value.bool b)) w') ∧
        ((IntKind.wrap IntKind.i64 ((↑p11_l_n : Int) + n) == IntKind.wrap IntKind.i64 ((8 : Int) * p1_pages)) =
            false →
          R (Ending.returned (Value.bool false)) w')) := by kernel_rfl
theorem t4_5 (p1_pages : Int) (p7_s : Option Addr) (p10_seen_a : Option Addr) (p10_seen_n : Nat) (p10_seen_c : Nat) (p11_l_a : Option Addr) (p11_l_n : Nat) (p11_l_c : Nat) (p14_i : Int) (w : World) (B4_5 : Env → World → Prop) (R : Ending → World → Prop) : den Try.prog M4 c4_5 (e4_5 p1_pages p7_s p10_seen_a p10_seen_n p10_seen_c p11_l_a p11_l_n p11_l_c p14_i) w (loopK B4_5 (k4_5 R)) =
((decide (p14_i < (↑p11_l_n : Int)) = true →
    ((0 : Int) ≤ p14_i ∧ p14_i < (↑p11_l_n : Int)) ∧
      ∃ a,
        p11_l_a = some a ∧
          ∃ n,
            World.cell? w (Addr.add a (Int.toNat p14_i * 1)) = some (Value.int IntKind.i64 n) ∧
              (decide (n < (1 : Int)) = false →
                  ((0 : Int) ≤ p14_i ∧ p14_i < (↑p11_l_n : Int)) ∧
                    ∃ a,
                      p11_l_a = some a ∧
                        ∃ n,
                          World.cell? w (Addr.add a (Int.toNat p14_i * 1)) = some (Value.int IntKind.i64 n) ∧
                            (decide (n > IntKind.wrap IntKind.i64 ((8 : Int) * p1_pages)) = false →
                                ((0 : Int) ≤ p14_i ∧ p14_i < (↑p11_l_n : Int)) ∧
                                  ∃ a,
                                    p11_l_a = some a ∧
                                      ∃ n,
                                        World.cell? w (Addr.add a (Int.toNat p14_i * 1)) =
                                            some (Value.int IntKind.i64 n) ∧
                                          ((0 : Int) ≤ n ∧ n < (↑p10_seen_n : Int)) ∧
                                            ∃ a,
                                              p10_seen_a = some a ∧
                                                ∃ b,
                                                  World.cell? w (Addr.add a (Int.toNat n * 1)) =
                                                      some (Value.bool b) ∧
                                                    (b = true → R (Ending.returned (Value.bool false)) w) ∧
                                                      (b = false →
                                                        ((0 : Int) ≤ p14_i ∧ p14_i < (↑p11_l_n : Int)) ∧
                                                          ∃ a,
                                                            p11_l_a = some a ∧
                                                              ∃ n,
                                                                World.cell? w
                                                                      (Addr.add a (Int.toNat p14_i * 1)) =
                                                                    some (Value.int IntKind.i64 n) ∧
                                                                  ((0 : Int) ≤ n ∧ n < (↑p10_seen_n : Int)) ∧
                                                                    ∃ a,
                                                                      p10_seen_a = some a ∧
                                                                        Wr w (Addr.add a (Int.toNat n * 1))
                                                                          [Value.bool true] fun w' =>
                                                                          B4_5
                                                                            [(1,
                                                                                SV.v (Value.int IntKind.i64 p1_pages)),
                                                                              (7, SV.v (Value.pointer p7_s)),
                                                                              (10,
                                                                                SV.v
                                                                                  (Value.slice p10_seen_a p10_seen_n
                                                                                    p10_seen_c)),
                                                                              (11,
                                                                                SV.v
                                                                                  (Value.slice p11_l_a p11_l_n
                                                                                    p11_l_c)),
                                                                              (14,
                                                                                SV.v
                                                                                  (Value.int IntKind.i64
                                                                                    (IntKind.wrap IntKind.i64
                                                                                      (p14_i + (1 : Int)))))]
                                                                            w')) ∧
                              (decide (n > IntKind.wrap IntKind.i64 ((8 : Int) * p1_pages)) = true →
                                R (Ending.returned (Value.bool false)) w)) ∧
                (decide (n < (1 : Int)) = true → R (Ending.returned (Value.bool false)) w)) ∧
  (decide (p14_i < (↑p11_l_n : Int)) = false →
    CutD Try.prog M4 c4_3 (e4_3 p1_pages p7_s p11_l_a p11_l_n p11_l_c) w (k4_3 R))) := by kernel_rfl
/-! davit/davitlaw08.StashDrains -/
def M5 : Mt := { N := 124, keep := [(0, [0, 1, 2]), (1, [0, 1, 2, 7, 8]), (2, [0, 1, 2, 7, 22]), (3, [6]), (4, [0, 1, 2, 7, 9]), (5, [0, 1, 2, 7, 9, 47]), (6, [0, 1, 2, 7, 9]), (7, [0, 1, 2, 7, 9, 56]), (8, [0, 1, 2, 7, 9]), (9, [0, 1, 2, 7, 9]), (10, [0, 1, 7, 10]), (11, [0, 1, 7, 10, 11]), (12, [0, 1, 7, 10, 11, 80]), (13, [0, 1, 7, 10, 11]), (14, [0, 1, 7, 10, 11, 12]), (15, [0, 1, 7, 10, 11, 12, 13, 14]), (16, [0, 1, 7, 10, 11, 106]), (17, [6]), (18, [6])], ords := [(9, [0, 1, 2, 3, 4, 5, 6, 7, 8, 9, 10, 11])], bk := [(0, [0, 1, 7]), (1, [0, 1, 2, 7, 9]), (2, [1, 7, 10]), (3, [0, 1, 7, 10, 11])], cuts := [(10, [0, 1, 7]), (18, [1, 7, 10])], lk := [(5, [0, 1, 2, 7, 9]), (12, [0, 1, 7, 10, 11])] }
noncomputable def c5 : Code := bodyOf Try.f5
noncomputable def c5_0 : Code := c5.sr.sr.sr.sr
noncomputable def c5_1 : Code := c5.sr.sr.sr.sr.sr.sr
noncomputable def c5_2 : Code := c5.sr.sr.sr.sl.sr.sl.sl
noncomputable def c5_3 : Code := c5.sr.sr.sr.sr.sr.sl.sr.sl.sl
def e5_0 (p0_cpus : Int) (p1_pages : Int) (p7_s : Option Addr) : Env := [(0, SV.v (Value.int IntKind.i64 p0_cpus)), (1, SV.v (Value.int IntKind.i64 p1_pages)), (7, SV.v (Value.pointer p7_s))]
def e5_2 (p0_cpus : Int) (p1_pages : Int) (p2_acts_a : Option Addr) (p2_acts_n : Nat) (p2_acts_c : Nat) (p7_s : Option Addr) (p9_i : Int) : Env := [(0, SV.v (Value.int IntKind.i64 p0_cpus)), (1, SV.v (Value.int IntKind.i64 p1_pages)), (2, SV.v (Value.slice p2_acts_a p2_acts_n p2_acts_c)), (7, SV.v (Value.pointer p7_s)), (9, SV.v (Value.int IntKind.i64 p9_i))]
def e5_1 (p1_pages : Int) (p7_s : Option Addr) (p10_out_a : Option Addr) (p10_out_n : Nat) (p10_out_c : Nat) : Env := [(1, SV.v (Value.int IntKind.i64 p1_pages)), (7, SV.v (Value.pointer p7_s)), (10, SV.v (Value.slice p10_out_a p10_out_n p10_out_c))]
def e5_3 (p0_cpus : Int) (p1_pages : Int) (p7_s : Option Addr) (p10_out_a : Option Addr) (p10_out_n : Nat) (p10_out_c : Nat) (p11_c : Int) : Env := [(0, SV.v (Value.int IntKind.i64 p0_cpus)), (1, SV.v (Value.int IntKind.i64 p1_pages)), (7, SV.v (Value.pointer p7_s)), (10, SV.v (Value.slice p10_out_a p10_out_n p10_out_c)), (11, SV.v (Value.int IntKind.i64 p11_c))]
def k5_0 (R : Ending → World → Prop) : Cont := retK Try.prog Try.f5.results.toList R
def k5_2 (R : Ending → World → Prop) : Cont := blockK 0 [0, 1, 7] (seqK (fun E w => cutB (findL M5.cuts (headReg c5_0)) Try.prog M5 c5_0 E w (retK Try.prog Try.f5.results.toList R) fun E => den Try.prog M5 c5_0 E w (retK Try.prog Try.f5.results.toList R)) (retK Try.prog Try.f5.results.toList R))
def k5_1 (R : Ending → World → Prop) : Cont := retK Try.prog Try.f5.results.toList R
def k5_3 (R : Ending → World → Prop) : Cont := blockK 2 [1, 7, 10] (seqK (fun E w => cutB (findL M5.cuts (headReg c5_1)) Try.prog M5 c5_1 E w (retK Try.prog Try.f5.results.toList R) fun E => den Try.prog M5 c5_1 E w (retK Try.prog Try.f5.results.toList R)) (retK Try.prog Try.f5.results.toList R))
theorem b5 : Try.f5.body = some c5 := by kernel_rfl
theorem n5 : Try.f5.ntmps = M5.N := by kernel_rfl
theorem u5 {p0_cpus : Int} {p1_pages : Int} {p2_acts_a : Option Addr} {p2_acts_n : Nat} {p2_acts_c : Nat} {w : World} {R : Ending → World → Prop} (h : den Try.prog M5 c5 (argE 0 [(Value.int IntKind.i64 p0_cpus), (Value.int IntKind.i64 p1_pages), (Value.slice p2_acts_a p2_acts_n p2_acts_c)]) w (retK Try.prog Try.f5.results.toList R)) : Calls Try.prog 5 #[(Value.int IntKind.i64 p0_cpus), (Value.int IntKind.i64 p1_pages), (Value.slice p2_acts_a p2_acts_n p2_acts_c)] w R := calls_den okProg Try.func5 b5 n5 (Nat.le_of_ble_eq_true rfl) h
theorem t5 (p0_cpus : Int) (p1_pages : Int) (p2_acts_a : Option Addr) (p2_acts_n : Nat) (p2_acts_c : Nat) (w : World) (R : Ending → World → Prop) : den Try.prog M5 c5 (argE 0 [(Value.int IntKind.i64 p0_cpus), (Value.int IntKind.i64 p1_pages), (Value.slice p2_acts_a p2_acts_n p2_acts_c)]) w (retK Try.prog Try.f5.results.toList R) =
(Call Try.prog 7 [Value.int IntKind.i64 p0_cpus, Value.int IntKind.i64 p1_pages] w fun e w' =>
  ∃ p n,
    e = Ending.returned (Value.tuple #[Value.pointer p, Value.int IntKind.i64 n]) ∧
      ((n != (0 : Int)) = true →
          (decide (p0_cpus < (1 : Int)) = false →
              (decide (p0_cpus > (64 : Int)) = false →
                  (decide (p1_pages < (1 : Int)) = false →
                      (decide (p1_pages > (12 : Int)) = true →
                          Call Try.prog 9 [] w' fun e w' =>
                            ∃ b, e = Ending.returned (Value.bool b) ∧ R (Ending.returned (Value.bool b)) w') ∧
                        (decide (p1_pages > (12 : Int)) = false → R (Ending.returned (Value.bool false)) w')) ∧
                    (decide (p1_pages < (1 : Int)) = true →
                      Call Try.prog 9 [] w' fun e w' =>
                        ∃ b, e = Ending.returned (Value.bool b) ∧ R (Ending.returned (Value.bool b)) w')) ∧
                (decide (p0_cpus > (64 : Int)) = true →
                  Call Try.prog 9 [] w' fun e w' =>
                    ∃ b, e = Ending.returned (Value.bool b) ∧ R (Ending.returned (Value.bool b)) w')) ∧
            (decide (p0_cpus < (1 : Int)) = true →
              Call Try.prog 9 [] w' fun e w' =>
                ∃ b, e = Ending.returned (Value.bool b) ∧ R (Ending.returned (Value.bool b)) w')) ∧
        ((n != (0 : Int)) = false →
          Cut
            (WP Try.prog 124 (Code.loop c5_2)
              (e5_2 p0_cpus p1_pages p2_acts_a p2_acts_n p2_acts_c p (0 : Int)) w' (k5_2 R)))) := by kernel_rfl
theorem t5_0 (p0_cpus : Int) (p1_pages : Int) (p7_s : Option Addr) (w : World) (R : Ending → World → Prop) : den Try.prog M5 c5_0 (e5_0 p0_cpus p1_pages p7_s) w (k5_0 R) =
(Call Try.prog 12 [Value.pointer p7_s] w fun e w' =>
  ∃ p n c,
    e = Ending.returned (Value.slice p n c) ∧
      Cut (WP Try.prog 124 (Code.loop c5_3) (e5_3 p0_cpus p1_pages p7_s p n c (0 : Int)) w' (k5_3 R))) := by kernel_rfl
theorem t5_2 (p0_cpus : Int) (p1_pages : Int) (p2_acts_a : Option Addr) (p2_acts_n : Nat) (p2_acts_c : Nat) (p7_s : Option Addr) (p9_i : Int) (w : World) (B5_2 : Env → World → Prop) (R : Ending → World → Prop) : den Try.prog M5 c5_2 (e5_2 p0_cpus p1_pages p2_acts_a p2_acts_n p2_acts_c p7_s p9_i) w (loopK B5_2 (k5_2 R)) =
((decide (p9_i < (↑p2_acts_n : Int)) = true →
    (decide (p9_i < (120 : Int)) = true →
        ((0 : Int) ≤ p9_i ∧ p9_i < (↑p2_acts_n : Int)) ∧
          ∃ a,
            p2_acts_a = some a ∧
              ∃ n,
                World.cell? w (Addr.add (Addr.add a (Int.toNat p9_i * 3)) 0) =
                    some (Value.int IntKind.i64 n) ∧
                  (3 : Int) ≠ (0 : Int) ∧
                    ((Int.tmod n (3 : Int) == (0 : Int)) = true →
                        ((0 : Int) ≤ p9_i ∧ p9_i < (↑p2_acts_n : Int)) ∧
                          ∃ a,
                            p2_acts_a = some a ∧
                              ∃ n,
                                World.cell? w (Addr.add (Addr.add a (Int.toNat p9_i * 3)) 1) =
                                    some (Value.int IntKind.i64 n) ∧
                                  Call Try.prog 20 [Value.pointer p7_s, Value.int IntKind.i64 n] w fun e w' =>
                                    ∃ n n_1,
                                      e =
                                          Ending.returned
                                            (Value.tuple #[Value.int IntKind.i64 n, Value.int IntKind.i64 n_1]) ∧
                                        B5_2
                                          [(0, SV.v (Value.int IntKind.i64 p0_cpus)),
                                            (1, SV.v (Value.int IntKind.i64 p1_pages)),
                                            (2, SV.v (Value.slice p2_acts_a p2_acts_n p2_acts_c)),
                                            (7, SV.v (Value.pointer p7_s)),
                                            (9,
                                              SV.v
                                                (Value.int IntKind.i64 (IntKind.wrap IntKind.i64 (p9_i + (1 : Int)))))]
                                          w') ∧
                      ((Int.tmod n (3 : Int) == (0 : Int)) = false →
                        ∀ (w' : World),
                          World.heap w' = World.heap w →
                            World.os w' = World.os w →
                              World.tape w' = World.tape w →
                                World.output w' = World.output w →
                                  ((0 : Int) ≤ p9_i ∧ p9_i < (↑p2_acts_n : Int)) ∧
                                    ∃ a,
                                      p2_acts_a = some a ∧
                                        ∃ n,
                                          World.cell? w'
                                                (Addr.add (Addr.add a (Int.toNat p9_i * 3)) 1) =
                                              some (Value.int IntKind.i64 n) ∧
                                            ((0 : Int) ≤ p9_i ∧ p9_i < (↑p2_acts_n : Int)) ∧
                                              ∃ a,
                                                p2_acts_a = some a ∧
                                                  ∃ n_1,
                                                    World.cell? w'
                                                          (Addr.add (Addr.add a (Int.toNat p9_i * 3))
                                                            2) =
                                                        some (Value.int IntKind.i64 n_1) ∧
                                                      Call Try.prog 21
                                                        [Value.pointer p7_s, Value.int IntKind.i64 n,
                                                          Value.int IntKind.i64 n_1]
                                                        w' fun e w' =>
                                                        ∃ n,
                                                          e = Ending.returned (Value.int IntKind.i64 n) ∧
                                                            B5_2
                                                              [(0, SV.v (Value.int IntKind.i64 p0_cpus)),
                                                                (1, SV.v (Value.int IntKind.i64 p1_pages)),
                                                                (2,
                                                                  SV.v (Value.slice p2_acts_a p2_acts_n p2_acts_c)),
                                                                (7, SV.v (Value.pointer p7_s)),
                                                                (9,
                                                                  SV.v
                                                                    (Value.int IntKind.i64
                                                                      (IntKind.wrap IntKind.i64 (p9_i + (1 : Int)))))]
                                                              w')) ∧
      (decide (p9_i < (120 : Int)) = false → CutD Try.prog M5 c5_0 (e5_0 p0_cpus p1_pages p7_s) w (k5_0 R))) ∧
  (decide (p9_i < (↑p2_acts_n : Int)) = false → CutD Try.prog M5 c5_0 (e5_0 p0_cpus p1_pages p7_s) w (k5_0 R))) := by kernel_rfl
theorem t5_1 (p1_pages : Int) (p7_s : Option Addr) (p10_out_a : Option Addr) (p10_out_n : Nat) (p10_out_c : Nat) (w : World) (R : Ending → World → Prop) : den Try.prog M5 c5_1 (e5_1 p1_pages p7_s p10_out_a p10_out_n p10_out_c) w (k5_1 R) =
(Call Try.prog 14 [Value.pointer p7_s] w fun e w' =>
  ∃ n,
    e = Ending.returned (Value.int IntKind.i64 n) ∧
      ((n == IntKind.wrap IntKind.i64 (IntKind.wrap IntKind.i64 ((8 : Int) * p1_pages) - (↑p10_out_n : Int))) = true →
          Call Try.prog 12 [Value.pointer p7_s] w' fun e w' =>
            ∃ p n c,
              e = Ending.returned (Value.slice p n c) ∧
                Call Try.prog 11 [Value.slice p n c, Value.slice p10_out_a p10_out_n p10_out_c] w'
                  fun e w' =>
                  ∃ b,
                    e = Ending.returned (Value.bool b) ∧
                      (b = true →
                          Call Try.prog 9 [] w' fun e w' =>
                            ∃ b, e = Ending.returned (Value.bool b) ∧ R (Ending.returned (Value.bool b)) w') ∧
                        (b = false → R (Ending.returned (Value.bool false)) w')) ∧
        ((n == IntKind.wrap IntKind.i64 (IntKind.wrap IntKind.i64 ((8 : Int) * p1_pages) - (↑p10_out_n : Int))) =
            false →
          R (Ending.returned (Value.bool false)) w')) := by kernel_rfl
theorem t5_3 (p0_cpus : Int) (p1_pages : Int) (p7_s : Option Addr) (p10_out_a : Option Addr) (p10_out_n : Nat) (p10_out_c : Nat) (p11_c : Int) (w : World) (B5_3 : Env → World → Prop) (R : Ending → World → Prop) : den Try.prog M5 c5_3 (e5_3 p0_cpus p1_pages p7_s p10_out_a p10_out_n p10_out_c p11_c) w (loopK B5_3 (k5_3 R)) =
((decide (p11_c < p0_cpus) = true →
    Call Try.prog 19 [Value.pointer p7_s, Value.int IntKind.i64 p11_c] w fun e w' =>
      ∃ p n c,
        e = Ending.returned (Value.slice p n c) ∧
          Call Try.prog 22 [Value.pointer p7_s, Value.int IntKind.i64 p11_c] w' fun e w' =>
            ∃ n_1 n_2,
              e = Ending.returned (Value.tuple #[Value.int IntKind.i64 n_1, Value.int IntKind.i64 n_2]) ∧
                (((↑n : Int) != n_1) = false →
                    ((n_2 != (0 : Int)) = false →
                        Call Try.prog 19 [Value.pointer p7_s, Value.int IntKind.i64 p11_c] w' fun e w' =>
                          ∃ p n c,
                            e = Ending.returned (Value.slice p n c) ∧
                              (((↑n : Int) != (0 : Int)) = true → R (Ending.returned (Value.bool false)) w') ∧
                                (((↑n : Int) != (0 : Int)) = false →
                                  B5_3
                                    [(0, SV.v (Value.int IntKind.i64 p0_cpus)),
                                      (1, SV.v (Value.int IntKind.i64 p1_pages)),
                                      (7, SV.v (Value.pointer p7_s)),
                                      (10, SV.v (Value.slice p10_out_a p10_out_n p10_out_c)),
                                      (11,
                                        SV.v (Value.int IntKind.i64 (IntKind.wrap IntKind.i64 (p11_c + (1 : Int)))))]
                                    w')) ∧
                      ((n_2 != (0 : Int)) = true → R (Ending.returned (Value.bool false)) w')) ∧
                  (((↑n : Int) != n_1) = true → R (Ending.returned (Value.bool false)) w')) ∧
  (decide (p11_c < p0_cpus) = false →
    CutD Try.prog M5 c5_1 (e5_1 p1_pages p7_s p10_out_a p10_out_n p10_out_c) w (k5_1 R))) := by kernel_rfl
/-! davit/davitlaw08.StashNil -/
def M6 : Mt := { N := 62, keep := [(0, [0, 1]), (1, [0, 1, 5]), (2, [0, 1, 5, 7]), (3, [0, 1, 5, 7, 9]), (4, [4])], ords := [], bk := [], cuts := [], lk := [] }
noncomputable def c6 : Code := bodyOf Try.f6
theorem b6 : Try.f6.body = some c6 := by kernel_rfl
theorem n6 : Try.f6.ntmps = M6.N := by kernel_rfl
theorem u6 {p0_cpu : Int} {p1_id : Int} {w : World} {R : Ending → World → Prop} (h : den Try.prog M6 c6 (argE 0 [(Value.int IntKind.i64 p0_cpu), (Value.int IntKind.i64 p1_id)]) w (retK Try.prog Try.f6.results.toList R)) : Calls Try.prog 6 #[(Value.int IntKind.i64 p0_cpu), (Value.int IntKind.i64 p1_id)] w R := calls_den okProg Try.func6 b6 n6 (Nat.le_of_ble_eq_true rfl) h
theorem t6 (p0_cpu : Int) (p1_id : Int) (w : World) (R : Ending → World → Prop) : den Try.prog M6 c6 (argE 0 [(Value.int IntKind.i64 p0_cpu), (Value.int IntKind.i64 p1_id)]) w (retK Try.prog Try.f6.results.toList R) =
(Call Try.prog 20 [Value.pointer none, Value.int IntKind.i64 p0_cpu] w fun e w' =>
  ∃ n n_1,
    e = Ending.returned (Value.tuple #[Value.int IntKind.i64 n, Value.int IntKind.i64 n_1]) ∧
      Call Try.prog 22 [Value.pointer none, Value.int IntKind.i64 p0_cpu] w' fun e w' =>
        ∃ n n_2,
          e = Ending.returned (Value.tuple #[Value.int IntKind.i64 n, Value.int IntKind.i64 n_2]) ∧
            ((n_1 == (1 : Int)) = true →
                Call Try.prog 21
                  [Value.pointer none, Value.int IntKind.i64 p0_cpu, Value.int IntKind.i64 p1_id] w' fun e w' =>
                  ∃ n,
                    e = Ending.returned (Value.int IntKind.i64 n) ∧
                      ((n == (1 : Int)) = true →
                          ((n_2 == (1 : Int)) = true →
                              Call Try.prog 19 [Value.pointer none, Value.int IntKind.i64 p0_cpu] w'
                                fun e w' =>
                                ∃ p n c,
                                  e = Ending.returned (Value.slice p n c) ∧
                                    (((↑n : Int) == (0 : Int)) = true →
                                        Call Try.prog 12 [Value.pointer none] w' fun e w' =>
                                          ∃ p n c,
                                            e = Ending.returned (Value.slice p n c) ∧
                                              (((↑n : Int) == (0 : Int)) = true →
                                                  Call Try.prog 14 [Value.pointer none] w' fun e w' =>
                                                    ∃ n,
                                                      e = Ending.returned (Value.int IntKind.i64 n) ∧
                                                        ((n == (0 : Int)) = true →
                                                            Call Try.prog 16
                                                              [Value.pointer none, Value.int IntKind.i64 p1_id] w'
                                                              fun e w' =>
                                                              ∃ b,
                                                                e = Ending.returned (Value.bool b) ∧
                                                                  ((!b) = true →
                                                                      Call Try.prog 9 [] w' fun e w' =>
                                                                        ∃ b,
                                                                          e = Ending.returned (Value.bool b) ∧
                                                                            R (Ending.returned (Value.bool b)) w') ∧
                                                                    ((!b) = false →
                                                                      R (Ending.returned (Value.bool false)) w')) ∧
                                                          ((n == (0 : Int)) = false →
                                                            R (Ending.returned (Value.bool false)) w')) ∧
                                                (((↑n : Int) == (0 : Int)) = false →
                                                  R (Ending.returned (Value.bool false)) w')) ∧
                                      (((↑n : Int) == (0 : Int)) = false →
                                        R (Ending.returned (Value.bool false)) w')) ∧
                            ((n_2 == (1 : Int)) = false → R (Ending.returned (Value.bool false)) w')) ∧
                        ((n == (1 : Int)) = false → R (Ending.returned (Value.bool false)) w')) ∧
              ((n_1 == (1 : Int)) = false → R (Ending.returned (Value.bool false)) w')) := by kernel_rfl
/-! davit/stash.New -/
def M7 : Mt := { N := 29, keep := [(0, [0, 1]), (1, [0, 1, 6, 7]), (2, [0, 1, 6, 22]), (3, [4, 5]), (4, [4, 5])], ords := [], bk := [], cuts := [], lk := [] }
noncomputable def c7 : Code := bodyOf Try.f7
theorem b7 : Try.f7.body = some c7 := by kernel_rfl
theorem n7 : Try.f7.ntmps = M7.N := by kernel_rfl
theorem u7 {p0_cpus : Int} {p1_pages : Int} {w : World} {R : Ending → World → Prop} (h : den Try.prog M7 c7 (argE 0 [(Value.int IntKind.i64 p0_cpus), (Value.int IntKind.i64 p1_pages)]) w (retK Try.prog Try.f7.results.toList R)) : Calls Try.prog 7 #[(Value.int IntKind.i64 p0_cpus), (Value.int IntKind.i64 p1_pages)] w R := calls_den okProg Try.func7 b7 n7 (Nat.le_of_ble_eq_true rfl) h
theorem t7 (p0_cpus : Int) (p1_pages : Int) (w : World) (R : Ending → World → Prop) : den Try.prog M7 c7 (argE 0 [(Value.int IntKind.i64 p0_cpus), (Value.int IntKind.i64 p1_pages)]) w (retK Try.prog Try.f7.results.toList R) =
(Call Try.prog 23 [Value.int IntKind.i64 p1_pages] w fun e w' =>
  ∃ p n,
    e = Ending.returned (Value.tuple #[Value.pointer p, Value.int IntKind.i64 n]) ∧
      ((n != (0 : Int)) = false →
          (decide (p0_cpus < (1 : Int)) = false →
              (decide (p0_cpus > (64 : Int)) = true →
                  R (Ending.returned (Value.tuple #[Value.pointer none, Value.int IntKind.i64 2])) w') ∧
                (decide (p0_cpus > (64 : Int)) = false →
                  ∃ p_1 n c w'_1,
                    Sem.run Try.prog
                          (Instr.makeSlice 39 (Value.int IntKind.i64 p0_cpus) (Value.int IntKind.i64 p0_cpus))
                          w' =
                        Result.ok (Value.slice p_1 n c) w'_1 ∧
                      New w'_1 [Value.pointer p, Value.int IntKind.i64 p1_pages, Value.slice p_1 n c] 54
                        fun p w' =>
                        R (Ending.returned (Value.tuple #[Value.pointer (some p), Value.int IntKind.i64 0]))
                          w')) ∧
            (decide (p0_cpus < (1 : Int)) = true →
              R (Ending.returned (Value.tuple #[Value.pointer none, Value.int IntKind.i64 2])) w')) ∧
        ((n != (0 : Int)) = true →
          R (Ending.returned (Value.tuple #[Value.pointer none, Value.int IntKind.i64 2])) w')) := by kernel_rfl
/-! davit/davitref08.New -/
def M8 : Mt := { N := 28, keep := [(0, [0, 1]), (1, [0, 6, 7]), (2, [0, 6, 22]), (3, [4, 5]), (4, [4, 5])], ords := [], bk := [], cuts := [], lk := [] }
noncomputable def c8 : Code := bodyOf Try.f8
theorem b8 : Try.f8.body = some c8 := by kernel_rfl
theorem n8 : Try.f8.ntmps = M8.N := by kernel_rfl
theorem u8 {p0_cpus : Int} {p1_pages : Int} {w : World} {R : Ending → World → Prop} (h : den Try.prog M8 c8 (argE 0 [(Value.int IntKind.i64 p0_cpus), (Value.int IntKind.i64 p1_pages)]) w (retK Try.prog Try.f8.results.toList R)) : Calls Try.prog 8 #[(Value.int IntKind.i64 p0_cpus), (Value.int IntKind.i64 p1_pages)] w R := calls_den okProg Try.func8 b8 n8 (Nat.le_of_ble_eq_true rfl) h
theorem t8 (p0_cpus : Int) (p1_pages : Int) (w : World) (R : Ending → World → Prop) : den Try.prog M8 c8 (argE 0 [(Value.int IntKind.i64 p0_cpus), (Value.int IntKind.i64 p1_pages)]) w (retK Try.prog Try.f8.results.toList R) =
(Call Try.prog 24 [Value.int IntKind.i64 p1_pages] w fun e w' =>
  ∃ p n,
    e = Ending.returned (Value.tuple #[Value.pointer p, Value.int IntKind.i64 n]) ∧
      (decide (p0_cpus < (1 : Int)) = false →
          (decide (p0_cpus > (64 : Int)) = false →
              ((n != (0 : Int)) = true →
                  R (Ending.returned (Value.tuple #[Value.pointer none, Value.int IntKind.i64 2])) w') ∧
                ((n != (0 : Int)) = false →
                  ∃ p_1 n c w'_1,
                    Sem.run Try.prog
                          (Instr.makeSlice 39 (Value.int IntKind.i64 p0_cpus) (Value.int IntKind.i64 p0_cpus))
                          w' =
                        Result.ok (Value.slice p_1 n c) w'_1 ∧
                      New w'_1 [Value.pointer p, Value.slice p_1 n c] 41 fun p w' =>
                        R (Ending.returned (Value.tuple #[Value.pointer (some p), Value.int IntKind.i64 0]))
                          w')) ∧
            (decide (p0_cpus > (64 : Int)) = true →
              R (Ending.returned (Value.tuple #[Value.pointer none, Value.int IntKind.i64 2])) w')) ∧
        (decide (p0_cpus < (1 : Int)) = true →
          R (Ending.returned (Value.tuple #[Value.pointer none, Value.int IntKind.i64 2])) w')) := by kernel_rfl
/-! davit/davitlaw08.known -/
def M9 : Mt := { N := 74, keep := [(0, []), (1, [1, 2]), (2, [1, 19]), (3, [0]), (4, [1, 3, 4]), (5, [1, 3, 4, 5, 6]), (6, [1, 3, 4, 5, 6, 7]), (7, [1, 3, 4, 5, 6, 7, 8, 9]), (8, [0])], ords := [], bk := [], cuts := [], lk := [] }
noncomputable def c9 : Code := bodyOf Try.f9
theorem b9 : Try.f9.body = some c9 := by kernel_rfl
theorem n9 : Try.f9.ntmps = M9.N := by kernel_rfl
theorem u9  {w : World} {R : Ending → World → Prop} (h : den Try.prog M9 c9 (argE 0 []) w (retK Try.prog Try.f9.results.toList R)) : Calls Try.prog 9 #[] w R := calls_den okProg Try.func9 b9 n9 (Nat.le_of_ble_eq_true rfl) h
theorem t9  (w : World) (R : Ending → World → Prop) : den Try.prog M9 c9 (argE 0 []) w (retK Try.prog Try.f9.results.toList R) =
(Call Try.prog 7 [Value.int IntKind.i64 2, Value.int IntKind.i64 2] w fun e w' =>
  ∃ p n,
    e = Ending.returned (Value.tuple #[Value.pointer p, Value.int IntKind.i64 n]) ∧
      ((n != (0 : Int)) = false →
          (Option.isNone p = true → R (Ending.returned (Value.bool false)) w') ∧
            (Option.isNone p = false →
              Call Try.prog 20 [Value.pointer p, Value.int IntKind.i64 0] w' fun e w' =>
                ∃ n n_1,
                  e = Ending.returned (Value.tuple #[Value.int IntKind.i64 n, Value.int IntKind.i64 n_1]) ∧
                    Call Try.prog 20 [Value.pointer p, Value.int IntKind.i64 0] w' fun e w' =>
                      ∃ n_2 n_3,
                        e = Ending.returned (Value.tuple #[Value.int IntKind.i64 n_2, Value.int IntKind.i64 n_3]) ∧
                          Call Try.prog 21
                            [Value.pointer p, Value.int IntKind.i64 1, Value.int IntKind.i64 2] w'
                            fun e w' =>
                            ∃ n_4,
                              e = Ending.returned (Value.int IntKind.i64 n_4) ∧
                                Call Try.prog 22 [Value.pointer p, Value.int IntKind.i64 1] w'
                                  fun e w' =>
                                  ∃ n_5 n_6,
                                    e =
                                        Ending.returned
                                          (Value.tuple #[Value.int IntKind.i64 n_5, Value.int IntKind.i64 n_6]) ∧
                                      ((n == (2 : Int)) = true →
                                          ((n_1 == (0 : Int)) = true →
                                              ((n_2 == (1 : Int)) = true →
                                                  ((n_3 == (0 : Int)) = true →
                                                      ((n_4 == (0 : Int)) = true →
                                                          ((n_5 == (1 : Int)) = true →
                                                              ((n_6 == (0 : Int)) = true →
                                                                  Call Try.prog 12 [Value.pointer p] w'
                                                                    fun e w' =>
                                                                    ∃ p_1 n c,
                                                                      e = Ending.returned (Value.slice p_1 n c) ∧
                                                                        New w' [Value.int IntKind.i64 1]
                                                                          3 fun p_2 w' =>
                                                                          Call Try.prog 11
                                                                            [Value.slice p_1 n c,
                                                                              Value.slice (some p_2) 1
                                                                                1]
                                                                            w' fun e w' =>
                                                                            ∃ b,
                                                                              e = Ending.returned (Value.bool b) ∧
                                                                                (b = true →
                                                                                    Call Try.prog 14
                                                                                      [Value.pointer p] w' fun e w' =>
                                                                                      ∃ n,
                                                                                        e =
                                                                                            Ending.returned
                                                                                              (Value.int IntKind.i64
                                                                                                n) ∧
                                                                                          R
                                                                                            (Ending.returned
                                                                                              (Value.bool
                                                                                                (n == (15 : Int))))
                                                                                            w') ∧
                                                                                  (b = false →
                                                                                    R
                                                                                      (Ending.returned
                                                                                        (Value.bool false))
                                                                                      w')) ∧
                                                                ((n_6 == (0 : Int)) = false →
                                                                  R (Ending.returned (Value.bool false)) w')) ∧
                                                            ((n_5 == (1 : Int)) = false →
                                                              R (Ending.returned (Value.bool false)) w')) ∧
                                                        ((n_4 == (0 : Int)) = false →
                                                          R (Ending.returned (Value.bool false)) w')) ∧
                                                    ((n_3 == (0 : Int)) = false →
                                                      R (Ending.returned (Value.bool false)) w')) ∧
                                                ((n_2 == (1 : Int)) = false →
                                                  R (Ending.returned (Value.bool false)) w')) ∧
                                            ((n_1 == (0 : Int)) = false → R (Ending.returned (Value.bool false)) w')) ∧
                                        ((n == (2 : Int)) = false → R (Ending.returned (Value.bool false)) w'))) ∧
        ((n != (0 : Int)) = true → R (Ending.returned (Value.bool false)) w')) := by kernel_rfl
/-! davit/davitlaw08.do -/
def M10 : Mt := { N := 79, keep := [(0, [0, 1, 5]), (1, [0, 1, 5, 17]), (2, [1, 5, 11, 12]), (3, [11, 12, 13, 14]), (4, [6]), (5, [0, 1, 5, 17, 40]), (6, [1, 5, 7, 8]), (7, [7, 8, 9, 10]), (8, [6]), (9, [0, 1, 5, 64]), (10, [6])], ords := [(10, [0, 1, 2, 3, 4, 6, 7, 8, 9, 10, 5, 11, 12, 13])], bk := [(0, [6])], cuts := [], lk := [] }
noncomputable def c10 : Code := bodyOf Try.f10
theorem b10 : Try.f10.body = some c10 := by kernel_rfl
theorem n10 : Try.f10.ntmps = M10.N := by kernel_rfl
theorem u10 {p0_s : Option Addr} {p1_r : Option Addr} {p2_a_0 : Int} {p2_a_1 : Int} {p2_a_2 : Int} {w : World} {R : Ending → World → Prop} (h : den Try.prog M10 c10 (argE 0 [(Value.pointer p0_s), (Value.pointer p1_r), (Value.agg #[(Value.int IntKind.i64 p2_a_0), (Value.int IntKind.i64 p2_a_1), (Value.int IntKind.i64 p2_a_2)])]) w (retK Try.prog Try.f10.results.toList R)) : Calls Try.prog 10 #[(Value.pointer p0_s), (Value.pointer p1_r), (Value.agg #[(Value.int IntKind.i64 p2_a_0), (Value.int IntKind.i64 p2_a_1), (Value.int IntKind.i64 p2_a_2)])] w R := calls_den okProg Try.func10 b10 n10 (Nat.le_of_ble_eq_true rfl) h
theorem t10 (p0_s : Option Addr) (p1_r : Option Addr) (p2_a_0 : Int) (p2_a_1 : Int) (p2_a_2 : Int) (w : World) (R : Ending → World → Prop) : den Try.prog M10 c10 (argE 0 [(Value.pointer p0_s), (Value.pointer p1_r), (Value.agg #[(Value.int IntKind.i64 p2_a_0), (Value.int IntKind.i64 p2_a_1), (Value.int IntKind.i64 p2_a_2)])]) w (retK Try.prog Try.f10.results.toList R) =
(New w [Value.int IntKind.i64 p2_a_0, Value.int IntKind.i64 p2_a_1, Value.int IntKind.i64 p2_a_2] 33
  fun p w' =>
  ∃ n,
    World.cell? w' (Addr.add p 0) = some (Value.int IntKind.i64 n) ∧
      (3 : Int) ≠ (0 : Int) ∧
        ((Int.tmod n (3 : Int) == (0 : Int)) = true →
            ∃ n,
              World.cell? w' (Addr.add p 1) = some (Value.int IntKind.i64 n) ∧
                Call Try.prog 20 [Value.pointer p0_s, Value.int IntKind.i64 n] w' fun e w' =>
                  ∃ n n_1,
                    e = Ending.returned (Value.tuple #[Value.int IntKind.i64 n, Value.int IntKind.i64 n_1]) ∧
                      ∃ n_2,
                        World.cell? w' (Addr.add p 1) = some (Value.int IntKind.i64 n_2) ∧
                          Call Try.prog 25 [Value.pointer p1_r, Value.int IntKind.i64 n_2] w' fun e w' =>
                            ∃ n_3 n_4,
                              e =
                                  Ending.returned
                                    (Value.tuple #[Value.int IntKind.i64 n_3, Value.int IntKind.i64 n_4]) ∧
                                ((n == n_3) = true → R (Ending.returned (Value.bool (n_1 == n_4))) w') ∧
                                  ((n == n_3) = false → R (Ending.returned (Value.bool false)) w')) ∧
          ((Int.tmod n (3 : Int) == (0 : Int)) = false →
            ((Int.tmod n (3 : Int) == (1 : Int)) = true →
                ∀ (w'_1 : World),
                  World.heap w'_1 = World.heap w' →
                    World.os w'_1 = World.os w' →
                      World.tape w'_1 = World.tape w' →
                        World.output w'_1 = World.output w' →
                          ∃ n,
                            World.cell? w'_1 (Addr.add p 1) = some (Value.int IntKind.i64 n) ∧
                              ∃ n_1,
                                World.cell? w'_1 (Addr.add p 2) = some (Value.int IntKind.i64 n_1) ∧
                                  ∃ n_2,
                                    World.cell? w'_1 (Addr.add p 1) = some (Value.int IntKind.i64 n_2) ∧
                                      ∃ n_3,
                                        World.cell? w'_1 (Addr.add p 2) = some (Value.int IntKind.i64 n_3) ∧
                                          Call Try.prog 21
                                            [Value.pointer p0_s, Value.int IntKind.i64 n, Value.int IntKind.i64 n_1]
                                            w'_1 fun e w' =>
                                            ∃ n,
                                              e = Ending.returned (Value.int IntKind.i64 n) ∧
                                                World.cell? w' (Addr.add p 2) =
                                                    some (Value.int IntKind.i64 n_3) ∧
                                                  World.cell? w' (Addr.add p 1) =
                                                      some (Value.int IntKind.i64 n_2) ∧
                                                    Call Try.prog 26
                                                      [Value.pointer p1_r, Value.int IntKind.i64 n_2,
                                                        Value.int IntKind.i64 n_3]
                                                      w' fun e w' =>
                                                      ∃ n_4,
                                                        e = Ending.returned (Value.int IntKind.i64 n_4) ∧
                                                          R (Ending.returned (Value.bool (n == n_4))) w') ∧
              ((Int.tmod n (3 : Int) == (1 : Int)) = false →
                ∃ n,
                  World.cell? w' (Addr.add p 1) = some (Value.int IntKind.i64 n) ∧
                    Call Try.prog 22 [Value.pointer p0_s, Value.int IntKind.i64 n] w' fun e w' =>
                      ∃ n n_1,
                        e = Ending.returned (Value.tuple #[Value.int IntKind.i64 n, Value.int IntKind.i64 n_1]) ∧
                          ∃ n_2,
                            World.cell? w' (Addr.add p 1) = some (Value.int IntKind.i64 n_2) ∧
                              Call Try.prog 27 [Value.pointer p1_r, Value.int IntKind.i64 n_2] w' fun e w' =>
                                ∃ n_3 n_4,
                                  e =
                                      Ending.returned
                                        (Value.tuple #[Value.int IntKind.i64 n_3, Value.int IntKind.i64 n_4]) ∧
                                    ((n == n_3) = true → R (Ending.returned (Value.bool (n_1 == n_4))) w') ∧
                                      ((n == n_3) = false → R (Ending.returned (Value.bool false)) w')))) := by kernel_rfl
/-! davit/davitref01.Ints -/
def M11 : Mt := { N := 26, keep := [(0, [0, 1]), (1, [0, 1, 10]), (2, [4]), (3, [0, 1, 5]), (4, [0, 1, 5, 14]), (5, [0, 1, 5]), (6, [0, 1, 5, 25]), (7, [4]), (8, [4])], ords := [(6, [0, 1, 2, 3, 4, 5, 6, 7, 8])], bk := [(0, []), (1, [0, 1, 5])], cuts := [], lk := [(4, [0, 1, 5])] }
noncomputable def c11 : Code := bodyOf Try.f11
noncomputable def c11_0 : Code := c11.sr.sr.sr
noncomputable def c11_1 : Code := c11.sr.sr.sl.sr.sl.sl
def e11_1 (p0_a_a : Option Addr) (p0_a_n : Nat) (p0_a_c : Nat) (p1_b_a : Option Addr) (p1_b_n : Nat) (p1_b_c : Nat) (p5_i : Int) : Env := [(0, SV.v (Value.slice p0_a_a p0_a_n p0_a_c)), (1, SV.v (Value.slice p1_b_a p1_b_n p1_b_c)), (5, SV.v (Value.int IntKind.i64 p5_i))]
def k11_1 (R : Ending → World → Prop) : Cont := blockK 0 [] (seqK (fun E w => cutB (findL M11.cuts (headReg c11_0)) Try.prog M11 c11_0 E w (retK Try.prog Try.f11.results.toList R) fun E => den Try.prog M11 c11_0 E w (retK Try.prog Try.f11.results.toList R)) (retK Try.prog Try.f11.results.toList R))
theorem b11 : Try.f11.body = some c11 := by kernel_rfl
theorem n11 : Try.f11.ntmps = M11.N := by kernel_rfl
theorem u11 {p0_a_a : Option Addr} {p0_a_n : Nat} {p0_a_c : Nat} {p1_b_a : Option Addr} {p1_b_n : Nat} {p1_b_c : Nat} {w : World} {R : Ending → World → Prop} (h : den Try.prog M11 c11 (argE 0 [(Value.slice p0_a_a p0_a_n p0_a_c), (Value.slice p1_b_a p1_b_n p1_b_c)]) w (retK Try.prog Try.f11.results.toList R)) : Calls Try.prog 11 #[(Value.slice p0_a_a p0_a_n p0_a_c), (Value.slice p1_b_a p1_b_n p1_b_c)] w R := calls_den okProg Try.func11 b11 n11 (Nat.le_of_ble_eq_true rfl) h
theorem t11 (p0_a_a : Option Addr) (p0_a_n : Nat) (p0_a_c : Nat) (p1_b_a : Option Addr) (p1_b_n : Nat) (p1_b_c : Nat) (w : World) (R : Ending → World → Prop) : den Try.prog M11 c11 (argE 0 [(Value.slice p0_a_a p0_a_n p0_a_c), (Value.slice p1_b_a p1_b_n p1_b_c)]) w (retK Try.prog Try.f11.results.toList R) =
((((↑p0_a_n : Int) != (↑p1_b_n : Int)) = true → R (Ending.returned (Value.bool false)) w) ∧
  (((↑p0_a_n : Int) != (↑p1_b_n : Int)) = false →
    Cut
      (WP Try.prog 26 (Code.loop c11_1) (e11_1 p0_a_a p0_a_n p0_a_c p1_b_a p1_b_n p1_b_c (0 : Int)) w
        (k11_1 R)))) := by kernel_rfl
theorem t11_1 (p0_a_a : Option Addr) (p0_a_n : Nat) (p0_a_c : Nat) (p1_b_a : Option Addr) (p1_b_n : Nat) (p1_b_c : Nat) (p5_i : Int) (w : World) (B11_1 : Env → World → Prop) (R : Ending → World → Prop) : den Try.prog M11 c11_1 (e11_1 p0_a_a p0_a_n p0_a_c p1_b_a p1_b_n p1_b_c p5_i) w (loopK B11_1 (k11_1 R)) =
((decide (p5_i < (↑p0_a_n : Int)) = true →
    ∀ (w' : World),
      World.heap w' = World.heap w →
        World.os w' = World.os w →
          World.tape w' = World.tape w →
            World.output w' = World.output w →
              ((0 : Int) ≤ p5_i ∧ p5_i < (↑p0_a_n : Int)) ∧
                ∃ a,
                  p0_a_a = some a ∧
                    ∃ n,
                      World.cell? w' (Addr.add a (Int.toNat p5_i * 1)) = some (Value.int IntKind.i64 n) ∧
                        ((0 : Int) ≤ p5_i ∧ p5_i < (↑p1_b_n : Int)) ∧
                          ∃ a,
                            p1_b_a = some a ∧
                              ∃ n_1,
                                World.cell? w' (Addr.add a (Int.toNat p5_i * 1)) =
                                    some (Value.int IntKind.i64 n_1) ∧
                                  ((n != n_1) = true → R (Ending.returned (Value.bool false)) w') ∧
                                    ((n != n_1) = false →
                                      B11_1
                                        [(0, SV.v (Value.slice p0_a_a p0_a_n p0_a_c)),
                                          (1, SV.v (Value.slice p1_b_a p1_b_n p1_b_c)),
                                          (5,
                                            SV.v
                                              (Value.int IntKind.i64 (IntKind.wrap IntKind.i64 (p5_i + (1 : Int)))))]
                                        w')) ∧
  (decide (p5_i < (↑p0_a_n : Int)) = false → R (Ending.returned (Value.bool true)) w)) := by kernel_rfl
/-! (*davit/stash.Stash).Out -/
def M12 : Mt := { N := 24, keep := [(0, [0]), (1, [0, 6]), (2, [2]), (3, [0, 3]), (4, [0, 3, 4]), (5, [0, 3, 4, 13]), (6, [0, 3, 4]), (7, [0, 3, 4, 18]), (8, [0, 3, 4]), (9, [2])], ords := [], bk := [(0, [3]), (1, [0, 3, 4])], cuts := [], lk := [(5, [0, 3, 4])] }
noncomputable def c12 : Code := bodyOf Try.f12
noncomputable def c12_0 : Code := c12.sr.sr.sr.sr
noncomputable def c12_1 : Code := c12.sr.sr.sr.sl.sr.sl.sl
def e12_1 (p0_s : Option Addr) (p3_l_a : Option Addr) (p3_l_n : Nat) (p3_l_c : Nat) (p4_id : Int) : Env := [(0, SV.v (Value.pointer p0_s)), (3, SV.v (Value.slice p3_l_a p3_l_n p3_l_c)), (4, SV.v (Value.int IntKind.i64 p4_id))]
def k12_1 (R : Ending → World → Prop) : Cont := blockK 0 [3] (seqK (fun E w => cutB (findL M12.cuts (headReg c12_0)) Try.prog M12 c12_0 E w (retK Try.prog Try.f12.results.toList R) fun E => den Try.prog M12 c12_0 E w (retK Try.prog Try.f12.results.toList R)) (retK Try.prog Try.f12.results.toList R))
theorem b12 : Try.f12.body = some c12 := by kernel_rfl
theorem n12 : Try.f12.ntmps = M12.N := by kernel_rfl
theorem u12 {p0_s : Option Addr} {w : World} {R : Ending → World → Prop} (h : den Try.prog M12 c12 (argE 0 [(Value.pointer p0_s)]) w (retK Try.prog Try.f12.results.toList R)) : Calls Try.prog 12 #[(Value.pointer p0_s)] w R := calls_den okProg Try.func12 b12 n12 (Nat.le_of_ble_eq_true rfl) h
theorem t12 (p0_s : Option Addr) (w : World) (R : Ending → World → Prop) : den Try.prog M12 c12 (argE 0 [(Value.pointer p0_s)]) w (retK Try.prog Try.f12.results.toList R) =
((Option.isNone p0_s = true → R (Ending.returned (Value.slice none 0 0)) w) ∧
  (Option.isNone p0_s = false →
    Cut (WP Try.prog 24 (Code.loop c12_1) (e12_1 p0_s none 0 0 (1 : Int)) w (k12_1 R)))) := by kernel_rfl
theorem t12_1 (p0_s : Option Addr) (p3_l_a : Option Addr) (p3_l_n : Nat) (p3_l_c : Nat) (p4_id : Int) (w : World) (B12_1 : Env → World → Prop) (R : Ending → World → Prop) : den Try.prog M12 c12_1 (e12_1 p0_s p3_l_a p3_l_n p3_l_c p4_id) w (loopK B12_1 (k12_1 R)) =
(∃ a,
  p0_s = some a ∧
    ∃ n,
      World.cell? w (Addr.add a 1) = some (Value.int IntKind.i64 n) ∧
        (decide (p4_id ≤ IntKind.wrap IntKind.i64 (n * (8 : Int))) = true →
            Call Try.prog 16 [Value.pointer p0_s, Value.int IntKind.i64 p4_id] w fun e w' =>
              ∃ b,
                e = Ending.returned (Value.bool b) ∧
                  (b = true →
                      New w' [Value.int IntKind.i64 p4_id] 3 fun p w' =>
                        ∃ p_1 n c w'_1,
                          Sem.run Try.prog
                                (Builtin.append_ #[35, 35] 35
                                  #[Value.slice p3_l_a p3_l_n p3_l_c, Value.slice (some p) 1 1])
                                w' =
                              Result.ok (Value.slice p_1 n c) w'_1 ∧
                            B12_1
                              [(0, SV.v (Value.pointer p0_s)), (3, SV.v (Value.slice p_1 n c)),
                                (4,
                                  SV.v (Value.int IntKind.i64 (IntKind.wrap IntKind.i64 (p4_id + (1 : Int)))))]
                              w'_1) ∧
                    (b = false →
                      B12_1
                        [(0, SV.v (Value.pointer p0_s)),
                          (3, SV.v (Value.slice p3_l_a p3_l_n p3_l_c)),
                          (4, SV.v (Value.int IntKind.i64 (IntKind.wrap IntKind.i64 (p4_id + (1 : Int)))))]
                        w')) ∧
          (decide (p4_id ≤ IntKind.wrap IntKind.i64 (n * (8 : Int))) = false →
            R (Ending.returned (Value.slice p3_l_a p3_l_n p3_l_c)) w)) := by kernel_rfl
/-! (*davit/davitref08.Stash).Out -/
def M13 : Mt := { N := 25, keep := [(0, [0]), (1, [0, 3]), (2, [0, 3, 4]), (3, [0, 3, 4, 14]), (4, [0, 3, 4]), (5, [0, 3, 4, 19]), (6, [0, 3, 4]), (7, [2])], ords := [], bk := [(0, [3]), (1, [0, 3, 4])], cuts := [], lk := [(3, [0, 3, 4])] }
noncomputable def c13 : Code := bodyOf Try.f13
noncomputable def c13_0 : Code := c13.sr.sr.sr
noncomputable def c13_1 : Code := c13.sr.sr.sl.sr.sl.sl
def e13_1 (p0_s : Option Addr) (p3_out_a : Option Addr) (p3_out_n : Nat) (p3_out_c : Nat) (p4_i : Int) : Env := [(0, SV.v (Value.pointer p0_s)), (3, SV.v (Value.slice p3_out_a p3_out_n p3_out_c)), (4, SV.v (Value.int IntKind.i64 p4_i))]
def k13_1 (R : Ending → World → Prop) : Cont := blockK 0 [3] (seqK (fun E w => cutB (findL M13.cuts (headReg c13_0)) Try.prog M13 c13_0 E w (retK Try.prog Try.f13.results.toList R) fun E => den Try.prog M13 c13_0 E w (retK Try.prog Try.f13.results.toList R)) (retK Try.prog Try.f13.results.toList R))
theorem b13 : Try.f13.body = some c13 := by kernel_rfl
theorem n13 : Try.f13.ntmps = M13.N := by kernel_rfl
theorem u13 {p0_s : Option Addr} {w : World} {R : Ending → World → Prop} (h : den Try.prog M13 c13 (argE 0 [(Value.pointer p0_s)]) w (retK Try.prog Try.f13.results.toList R)) : Calls Try.prog 13 #[(Value.pointer p0_s)] w R := calls_den okProg Try.func13 b13 n13 (Nat.le_of_ble_eq_true rfl) h
theorem t13 (p0_s : Option Addr) (w : World) (R : Ending → World → Prop) : den Try.prog M13 c13 (argE 0 [(Value.pointer p0_s)]) w (retK Try.prog Try.f13.results.toList R) =
(Cut (WP Try.prog 25 (Code.loop c13_1) (e13_1 p0_s none 0 0 (1 : Int)) w (k13_1 R))) := by kernel_rfl
theorem t13_1 (p0_s : Option Addr) (p3_out_a : Option Addr) (p3_out_n : Nat) (p3_out_c : Nat) (p4_i : Int) (w : World) (B13_1 : Env → World → Prop) (R : Ending → World → Prop) : den Try.prog M13 c13_1 (e13_1 p0_s p3_out_a p3_out_n p3_out_c p4_i) w (loopK B13_1 (k13_1 R)) =
(∃ a,
  p0_s = some a ∧
    ∃ p,
      World.cell? w (Addr.add a 0) = some (Value.pointer p) ∧
        ∃ a,
          p = some a ∧
            ∃ p n c,
              World.cell? w (Addr.add a 0) = some (Value.slice p n c) ∧
                (decide (p4_i < (↑n : Int)) = true →
                    Call Try.prog 17 [Value.pointer p0_s, Value.int IntKind.i64 p4_i] w fun e w' =>
                      ∃ b,
                        e = Ending.returned (Value.bool b) ∧
                          (b = true →
                              New w' [Value.int IntKind.i64 p4_i] 3 fun p w' =>
                                ∃ p_1 n c w'_1,
                                  Sem.run Try.prog
                                        (Builtin.append_ #[35, 35] 35
                                          #[Value.slice p3_out_a p3_out_n p3_out_c,
                                            Value.slice (some p) 1 1])
                                        w' =
                                      Result.ok (Value.slice p_1 n c) w'_1 ∧
                                    B13_1
                                      [(0, SV.v (Value.pointer p0_s)), (3, SV.v (Value.slice p_1 n c)),
                                        (4,
                                          SV.v (Value.int IntKind.i64 (IntKind.wrap IntKind.i64 (p4_i + (1 : Int)))))]
                                      w'_1) ∧
                            (b = false →
                              B13_1
                                [(0, SV.v (Value.pointer p0_s)),
                                  (3, SV.v (Value.slice p3_out_a p3_out_n p3_out_c)),
                                  (4,
                                    SV.v (Value.int IntKind.i64 (IntKind.wrap IntKind.i64 (p4_i + (1 : Int)))))]
                                w')) ∧
                  (decide (p4_i < (↑n : Int)) = false →
                    R (Ending.returned (Value.slice p3_out_a p3_out_n p3_out_c)) w)) := by kernel_rfl
/-! (*davit/stash.Stash).Free -/
def M14 : Mt := { N := 10, keep := [(0, [0]), (1, [0, 4]), (2, [2]), (3, [2])], ords := [], bk := [], cuts := [], lk := [] }
noncomputable def c14 : Code := bodyOf Try.f14
theorem b14 : Try.f14.body = some c14 := by kernel_rfl
theorem n14 : Try.f14.ntmps = M14.N := by kernel_rfl
theorem u14 {p0_s : Option Addr} {w : World} {R : Ending → World → Prop} (h : den Try.prog M14 c14 (argE 0 [(Value.pointer p0_s)]) w (retK Try.prog Try.f14.results.toList R)) : Calls Try.prog 14 #[(Value.pointer p0_s)] w R := calls_den okProg Try.func14 b14 n14 (Nat.le_of_ble_eq_true rfl) h
theorem t14 (p0_s : Option Addr) (w : World) (R : Ending → World → Prop) : den Try.prog M14 c14 (argE 0 [(Value.pointer p0_s)]) w (retK Try.prog Try.f14.results.toList R) =
((Option.isNone p0_s = true → R (Ending.returned (Value.int IntKind.i64 0)) w) ∧
  (Option.isNone p0_s = false →
    ∃ a,
      p0_s = some a ∧
        ∃ p,
          World.cell? w (Addr.add a 0) = some (Value.pointer p) ∧
            Call Try.prog 28 [Value.pointer p] w fun e w' =>
              ∃ n, e = Ending.returned (Value.int IntKind.i64 n) ∧ R (Ending.returned (Value.int IntKind.i64 n)) w')) := by kernel_rfl
/-! (*davit/davitref07.Pool).Free -/
def M15 : Mt := { N := 25, keep := [(0, [0]), (1, [0, 3]), (2, [0, 3, 4]), (3, [0, 3, 4, 11]), (4, [0, 3, 4]), (5, [0, 3, 4, 21]), (6, [0, 3, 4]), (7, [2])], ords := [], bk := [(0, [3]), (1, [0, 3, 4])], cuts := [], lk := [(3, [0, 3, 4])] }
noncomputable def c15 : Code := bodyOf Try.f15
noncomputable def c15_0 : Code := c15.sr.sr.sr
noncomputable def c15_1 : Code := c15.sr.sr.sl.sr.sl.sl
def e15_1 (p0_p : Option Addr) (p3_n : Int) (p4_i : Int) : Env := [(0, SV.v (Value.pointer p0_p)), (3, SV.v (Value.int IntKind.i64 p3_n)), (4, SV.v (Value.int IntKind.i64 p4_i))]
def k15_1 (R : Ending → World → Prop) : Cont := blockK 0 [3] (seqK (fun E w => cutB (findL M15.cuts (headReg c15_0)) Try.prog M15 c15_0 E w (retK Try.prog Try.f15.results.toList R) fun E => den Try.prog M15 c15_0 E w (retK Try.prog Try.f15.results.toList R)) (retK Try.prog Try.f15.results.toList R))
theorem b15 : Try.f15.body = some c15 := by kernel_rfl
theorem n15 : Try.f15.ntmps = M15.N := by kernel_rfl
theorem u15 {p0_p : Option Addr} {w : World} {R : Ending → World → Prop} (h : den Try.prog M15 c15 (argE 0 [(Value.pointer p0_p)]) w (retK Try.prog Try.f15.results.toList R)) : Calls Try.prog 15 #[(Value.pointer p0_p)] w R := calls_den okProg Try.func15 b15 n15 (Nat.le_of_ble_eq_true rfl) h
theorem t15 (p0_p : Option Addr) (w : World) (R : Ending → World → Prop) : den Try.prog M15 c15 (argE 0 [(Value.pointer p0_p)]) w (retK Try.prog Try.f15.results.toList R) =
(Cut (WP Try.prog 25 (Code.loop c15_1) (e15_1 p0_p (0 : Int) (1 : Int)) w (k15_1 R))) := by kernel_rfl
theorem t15_1 (p0_p : Option Addr) (p3_n : Int) (p4_i : Int) (w : World) (B15_1 : Env → World → Prop) (R : Ending → World → Prop) : den Try.prog M15 c15_1 (e15_1 p0_p p3_n p4_i) w (loopK B15_1 (k15_1 R)) =
(∃ a,
  p0_p = some a ∧
    ∃ p n c,
      World.cell? w (Addr.add a 0) = some (Value.slice p n c) ∧
        (decide (p4_i < (↑n : Int)) = true →
            ∃ a,
              p0_p = some a ∧
                ∃ p n c,
                  World.cell? w (Addr.add a 0) = some (Value.slice p n c) ∧
                    ((0 : Int) ≤ p4_i ∧ p4_i < (↑n : Int)) ∧
                      ∃ a,
                        p = some a ∧
                          ∃ b,
                            World.cell? w (Addr.add a (Int.toNat p4_i * 1)) = some (Value.bool b) ∧
                              ((!b) = true →
                                  B15_1
                                    [(0, SV.v (Value.pointer p0_p)),
                                      (3,
                                        SV.v (Value.int IntKind.i64 (IntKind.wrap IntKind.i64 (p3_n + (1 : Int))))),
                                      (4,
                                        SV.v (Value.int IntKind.i64 (IntKind.wrap IntKind.i64 (p4_i + (1 : Int)))))]
                                    w) ∧
                                ((!b) = false →
                                  B15_1
                                    [(0, SV.v (Value.pointer p0_p)),
                                      (3, SV.v (Value.int IntKind.i64 p3_n)),
                                      (4,
                                        SV.v (Value.int IntKind.i64 (IntKind.wrap IntKind.i64 (p4_i + (1 : Int)))))]
                                    w)) ∧
          (decide (p4_i < (↑n : Int)) = false → R (Ending.returned (Value.int IntKind.i64 p3_n)) w)) := by kernel_rfl
/-! (*davit/stash.Stash).Has -/
def M16 : Mt := { N := 24, keep := [(0, [0, 3]), (1, [4])], ords := [(1, [0, 1, 2, 3, 4, 5, 6, 7, 8, 9, 10, 11, 12, 13, 14, 15, 16, 17, 18, 19])], bk := [], cuts := [], lk := [] }
noncomputable def c16 : Code := bodyOf Try.f16
theorem b16 : Try.f16.body = some c16 := by kernel_rfl
theorem n16 : Try.f16.ntmps = M16.N := by kernel_rfl
theorem u16 {p0_s : Option Addr} {p1_id : Int} {w : World} {R : Ending → World → Prop} (h : den Try.prog M16 c16 (argE 0 [(Value.pointer p0_s), (Value.int IntKind.i64 p1_id)]) w (retK Try.prog Try.f16.results.toList R)) : Calls Try.prog 16 #[(Value.pointer p0_s), (Value.int IntKind.i64 p1_id)] w R := calls_den okProg Try.func16 b16 n16 (Nat.le_of_ble_eq_true rfl) h
theorem t16 (p0_s : Option Addr) (p1_id : Int) (w : World) (R : Ending → World → Prop) : den Try.prog M16 c16 (argE 0 [(Value.pointer p0_s), (Value.int IntKind.i64 p1_id)]) w (retK Try.prog Try.f16.results.toList R) =
(New w [Value.int IntKind.i64 p1_id] 3 fun p w' =>
  ∀ (w'_1 : World),
    World.heap w'_1 = World.heap w' →
      World.os w'_1 = World.os w' →
        World.tape w'_1 = World.tape w' →
          World.output w'_1 = World.output w' →
            ((!Option.isNone p0_s) = true →
                ∃ a,
                  p0_s = some a ∧
                    ∃ p_1,
                      World.cell? w'_1 (Addr.add a 0) = some (Value.pointer p_1) ∧
                        ∃ n,
                          World.cell? w'_1 p = some (Value.int IntKind.i64 n) ∧
                            Call Try.prog 29 [Value.pointer p_1, Value.int IntKind.i64 n] w'_1 fun e w' =>
                              ∃ b,
                                e = Ending.returned (Value.bool b) ∧
                                  (b = true →
                                      ∃ a,
                                        p0_s = some a ∧
                                          ∃ p_2 n c,
                                            World.cell? w' (Addr.add a 2) = some (Value.slice p_2 n c) ∧
                                              Call Try.prog 30
                                                [Value.slice p_2 n c,
                                                  Value.func (Fn.func 31) #[] #[Value.pointer (some p)]]
                                                w' fun e w' =>
                                                ∃ b,
                                                  e = Ending.returned (Value.bool b) ∧
                                                    R (Ending.returned (Value.bool !b)) w') ∧
                                    (b = false → R (Ending.returned (Value.bool false)) w')) ∧
              ((!Option.isNone p0_s) = false → R (Ending.returned (Value.bool false)) w'_1)) := by kernel_rfl
/-! (*davit/davitref08.Stash).Has -/
def M17 : Mt := { N := 17, keep := [(0, [0, 1]), (1, [4])], ords := [], bk := [], cuts := [], lk := [] }
noncomputable def c17 : Code := bodyOf Try.f17
theorem b17 : Try.f17.body = some c17 := by kernel_rfl
theorem n17 : Try.f17.ntmps = M17.N := by kernel_rfl
theorem u17 {p0_s : Option Addr} {p1_id : Int} {w : World} {R : Ending → World → Prop} (h : den Try.prog M17 c17 (argE 0 [(Value.pointer p0_s), (Value.int IntKind.i64 p1_id)]) w (retK Try.prog Try.f17.results.toList R)) : Calls Try.prog 17 #[(Value.pointer p0_s), (Value.int IntKind.i64 p1_id)] w R := calls_den okProg Try.func17 b17 n17 (Nat.le_of_ble_eq_true rfl) h
theorem t17 (p0_s : Option Addr) (p1_id : Int) (w : World) (R : Ending → World → Prop) : den Try.prog M17 c17 (argE 0 [(Value.pointer p0_s), (Value.int IntKind.i64 p1_id)]) w (retK Try.prog Try.f17.results.toList R) =
(∃ a,
  p0_s = some a ∧
    ∃ p,
      World.cell? w (Addr.add a 0) = some (Value.pointer p) ∧
        Call Try.prog 33 [Value.pointer p, Value.int IntKind.i64 p1_id] w fun e w' =>
          ∃ b,
            e = Ending.returned (Value.bool b) ∧
              (b = true →
                  Call Try.prog 34 [Value.pointer p0_s, Value.int IntKind.i64 p1_id] w' fun e w' =>
                    ∃ b, e = Ending.returned (Value.bool b) ∧ R (Ending.returned (Value.bool !b)) w') ∧
                (b = false → R (Ending.returned (Value.bool false)) w')) := by kernel_rfl
/-! (*davit/davitref08.Stash).Is -/
def M18 : Mt := { N := 16, keep := [(0, [0, 1]), (1, [4])], ords := [], bk := [], cuts := [], lk := [] }
noncomputable def c18 : Code := bodyOf Try.f18
theorem b18 : Try.f18.body = some c18 := by kernel_rfl
theorem n18 : Try.f18.ntmps = M18.N := by kernel_rfl
theorem u18 {p0_s : Option Addr} {p1_cpu : Int} {w : World} {R : Ending → World → Prop} (h : den Try.prog M18 c18 (argE 0 [(Value.pointer p0_s), (Value.int IntKind.i64 p1_cpu)]) w (retK Try.prog Try.f18.results.toList R)) : Calls Try.prog 18 #[(Value.pointer p0_s), (Value.int IntKind.i64 p1_cpu)] w R := calls_den okProg Try.func18 b18 n18 (Nat.le_of_ble_eq_true rfl) h
theorem t18 (p0_s : Option Addr) (p1_cpu : Int) (w : World) (R : Ending → World → Prop) : den Try.prog M18 c18 (argE 0 [(Value.pointer p0_s), (Value.int IntKind.i64 p1_cpu)]) w (retK Try.prog Try.f18.results.toList R) =
((decide (p1_cpu ≥ (0 : Int)) = true →
    ∃ a,
      p0_s = some a ∧
        ∃ p n c,
          World.cell? w (Addr.add a 1) = some (Value.slice p n c) ∧
            R (Ending.returned (Value.bool (decide (p1_cpu < (↑n : Int))))) w) ∧
  (decide (p1_cpu ≥ (0 : Int)) = false → R (Ending.returned (Value.bool false)) w)) := by kernel_rfl
/-! (*davit/stash.Stash).Kept -/
def M19 : Mt := { N := 17, keep := [(0, [0, 1]), (1, [0, 1, 8]), (2, [4]), (3, [4])], ords := [], bk := [], cuts := [], lk := [] }
noncomputable def c19 : Code := bodyOf Try.f19
theorem b19 : Try.f19.body = some c19 := by kernel_rfl
theorem n19 : Try.f19.ntmps = M19.N := by kernel_rfl
theorem u19 {p0_s : Option Addr} {p1_cpu : Int} {w : World} {R : Ending → World → Prop} (h : den Try.prog M19 c19 (argE 0 [(Value.pointer p0_s), (Value.int IntKind.i64 p1_cpu)]) w (retK Try.prog Try.f19.results.toList R)) : Calls Try.prog 19 #[(Value.pointer p0_s), (Value.int IntKind.i64 p1_cpu)] w R := calls_den okProg Try.func19 b19 n19 (Nat.le_of_ble_eq_true rfl) h
theorem t19 (p0_s : Option Addr) (p1_cpu : Int) (w : World) (R : Ending → World → Prop) : den Try.prog M19 c19 (argE 0 [(Value.pointer p0_s), (Value.int IntKind.i64 p1_cpu)]) w (retK Try.prog Try.f19.results.toList R) =
(Call Try.prog 35 [Value.pointer p0_s, Value.int IntKind.i64 p1_cpu] w fun e w' =>
  ∃ n,
    e = Ending.returned (Value.int IntKind.i64 n) ∧
      ((n != (0 : Int)) = true → R (Ending.returned (Value.slice none 0 0)) w') ∧
        ((n != (0 : Int)) = false →
          ∃ a,
            p0_s = some a ∧
              ∃ p n c,
                World.cell? w' (Addr.add a 2) = some (Value.slice p n c) ∧
                  ((0 : Int) ≤ p1_cpu ∧ p1_cpu < (↑n : Int)) ∧
                    ∃ a,
                      p = some a ∧
                        ∃ p n c,
                          World.cell? w' (Addr.add a (Int.toNat p1_cpu * 1)) = some (Value.slice p n c) ∧
                            Call Try.prog 36 [Value.slice p n c] w' fun e w' =>
                              ∃ p n c,
                                e = Ending.returned (Value.slice p n c) ∧ R (Ending.returned (Value.slice p n c)) w')) := by kernel_rfl
/-! (*davit/stash.Stash).Alloc -/
def M20 : Mt := { N := 56, keep := [(0, [0, 1]), (1, [0, 1, 6]), (2, [0, 1, 6, 13]), (3, [4, 5]), (4, [0, 1]), (5, [0, 1, 7]), (6, [0, 1, 7, 28]), (7, [4, 5]), (8, [0, 1, 7, 8]), (9, [8]), (10, [4, 5])], ords := [(9, [0, 1, 2, 3, 4, 5, 6, 7, 8, 9, 10, 11, 12, 13, 14, 15, 16])], bk := [], cuts := [], lk := [] }
noncomputable def c20 : Code := bodyOf Try.f20
theorem b20 : Try.f20.body = some c20 := by kernel_rfl
theorem n20 : Try.f20.ntmps = M20.N := by kernel_rfl
theorem u20 {p0_s : Option Addr} {p1_cpu : Int} {w : World} {R : Ending → World → Prop} (h : den Try.prog M20 c20 (argE 0 [(Value.pointer p0_s), (Value.int IntKind.i64 p1_cpu)]) w (retK Try.prog Try.f20.results.toList R)) : Calls Try.prog 20 #[(Value.pointer p0_s), (Value.int IntKind.i64 p1_cpu)] w R := calls_den okProg Try.func20 b20 n20 (Nat.le_of_ble_eq_true rfl) h
theorem t20 (p0_s : Option Addr) (p1_cpu : Int) (w : World) (R : Ending → World → Prop) : den Try.prog M20 c20 (argE 0 [(Value.pointer p0_s), (Value.int IntKind.i64 p1_cpu)]) w (retK Try.prog Try.f20.results.toList R) =
(Call Try.prog 35 [Value.pointer p0_s, Value.int IntKind.i64 p1_cpu] w fun e w' =>
  ∃ n,
    e = Ending.returned (Value.int IntKind.i64 n) ∧
      ((n != (0 : Int)) = true →
          R (Ending.returned (Value.tuple #[Value.int IntKind.i64 0, Value.int IntKind.i64 n])) w') ∧
        ((n != (0 : Int)) = false →
          Call Try.prog 37 [Value.pointer p0_s, Value.int IntKind.i64 p1_cpu] w' fun e w' =>
            e = Ending.returned (Value.tuple #[]) ∧
              ∃ a,
                p0_s = some a ∧
                  ∃ p n c,
                    World.cell? w' (Addr.add a 2) = some (Value.slice p n c) ∧
                      ((0 : Int) ≤ p1_cpu ∧ p1_cpu < (↑n : Int)) ∧
                        ∃ a,
                          p = some a ∧
                            ∃ p n c,
                              World.cell? w' (Addr.add a (Int.toNat p1_cpu * 1)) = some (Value.slice p n c) ∧
                                (decide (IntKind.wrap IntKind.i64 ((↑n : Int) - (1 : Int)) < (0 : Int)) = true →
                                    R
                                      (Ending.returned
                                        (Value.tuple
                                          #[Value.int IntKind.i64 0, Value.int IntKind.i64 5]))
                                      w') ∧
                                  (decide (IntKind.wrap IntKind.i64 ((↑n : Int) - (1 : Int)) < (0 : Int)) = false →
                                    ∃ a,
                                      p0_s = some a ∧
                                        ∃ p n_1 c,
                                          World.cell? w' (Addr.add a 2) = some (Value.slice p n_1 c) ∧
                                            ((0 : Int) ≤ p1_cpu ∧ p1_cpu < (↑n_1 : Int)) ∧
                                              ∃ a,
                                                p = some a ∧
                                                  ∃ p n_2 c,
                                                    World.cell? w' (Addr.add a (Int.toNat p1_cpu * 1)) =
                                                        some (Value.slice p n_2 c) ∧
                                                      ((0 : Int) ≤ IntKind.wrap IntKind.i64 ((↑n : Int) - (1 : Int)) ∧
                                                          IntKind.wrap IntKind.i64 ((↑n : Int) - (1 : Int)) <
                                                            (↑n_2 : Int)) ∧
                                                        ∃ a,
                                                          p = some a ∧
                                                            ∃ n_3,
                                                              World.cell? w'
                                                                    (Addr.add a
                                                                      (Int.toNat
                                                                          (IntKind.wrap IntKind.i64
                                                                            ((↑n : Int) - (1 : Int))) *
                                                                        1)) =
                                                                  some (Value.int IntKind.i64 n_3) ∧
                                                                ∀ (w'_1 : World),
                                                                  World.heap w'_1 = World.heap w' →
                                                                    World.os w'_1 = World.os w' →
                                                                      World.tape w'_1 = World.tape w' →
                                                                        World.output w'_1 = World.output w' →
                                                                          ∃ a,
                                                                            p0_s = some a ∧
                                                                              ∃ p n_4 c,
                                                                                World.cell? w'_1
                                                                                      (Addr.add a 2) =
                                                                                    some (Value.slice p n_4 c) ∧
                                                                                  ∃ a,
                                                                                    p0_s = some a ∧
                                                                                      ∃ p_1 n_5 c,
                                                                                        World.cell? w'_1
                                                                                              (Addr.add a 2) =
                                                                                            some
                                                                                              (Value.slice p_1 n_5 c) ∧
                                                                                          ((0 : Int) ≤ p1_cpu ∧
                                                                                              p1_cpu < (↑n_5 : Int)) ∧
                                                                                            ∃ a,
                                                                                              p_1 = some a ∧
                                                                                                ∃ p_2 n_6 c,
                                                                                                  World.cell? w'_1
                                                                                                        (Addr.add a
                                                                                                          (Int.toNat
                                                                                                              p1_cpu *
                                                                                                            1)) =
                                                                                                      some
                                                                                                        (Value.slice p_2
                                                                                                          n_6 c) ∧
                                                                                                    ((0 : Int) ≤
                                                                                                          IntKind.wrap
                                                                                                            IntKind.i64
                                                                                                            ((↑n :
                                                                                                                Int) -
                                                                                                              (1 :
                                                                                                                Int)) ∧
                                                                                                        IntKind.wrap
                                                                                                            IntKind.i64
                                                                                                            ((↑n :
                                                                                                                Int) -
                                                                                                              (1 :
                                                                                                                Int)) ≤
                                                                                                          (↑c : Int)) ∧
                                                                                                      ((0 : Int) ≤
                                                                                                            IntKind.wrap
                                                                                                              IntKind.i64
                                                                                                              ((↑n :
                                                                                                                  Int) -
                                                                                                                (1 :
                                                                                                                  Int)) ∧
                                                                                                          IntKind.wrap
                                                                                                              IntKind.i64
                                                                                                              ((↑n :
                                                                                                                  Int) -
                                                                                                                (1 :
                                                                                                                  Int)) ≤
                                                                                                            (↑(Int.toNat
                                                                                                                  (IntKind.wrap
                                                                                                                    IntKind.i64
                                                                                                                    ((↑n :
                                                                                                                        Int) -
                                                                                                                      (1 :
                                                                                                                        Int)))) :
                                                                                                              Int)) ∧
                                                                                                        ((0 : Int) ≤
                                                                                                              p1_cpu ∧
                                                                                                            p1_cpu <
                                                                                                              (↑n_4 :
                                                                                                                Int)) ∧
                                                                                                          ∃ a,
                                                                                                            p = some a ∧
                                                                                                              Wr w'_1
                                                                                                                (Addr.add
                                                                                                                  a
                                                                                                                  (Int.toNat
                                                                                                                      p1_cpu *
                                                                                                                    1))
                                                                                                                [Value.slice
                                                                                                                    (subA
                                                                                                                      p_2
                                                                                                                      (Int.toNat
                                                                                                                        (IntKind.wrap
                                                                                                                          IntKind.i64
                                                                                                                          ((↑n :
                                                                                                                              Int) -
                                                                                                                            (1 :
                                                                                                                              Int))))
                                                                                                                      0
                                                                                                                      1)
                                                                                                                    (Int.toNat
                                                                                                                        (IntKind.wrap
                                                                                                                          IntKind.i64
                                                                                                                          ((↑n :
                                                                                                                              Int) -
                                                                                                                            (1 :
                                                                                                                              Int))) -
                                                                                                                      0)
                                                                                                                    (Int.toNat
                                                                                                                        (IntKind.wrap
                                                                                                                          IntKind.i64
                                                                                                                          ((↑n :
                                                                                                                              Int) -
                                                                                                                            (1 :
                                                                                                                              Int))) -
                                                                                                                      0)]
                                                                                                                fun
                                                                                                                  w' =>
                                                                                                                R
                                                                                                                  (Ending.returned
                                                                                                                    (Value.tuple
                                                                                                                      #[Value.int
                                                                                                                          IntKind.i64
                                                                                                                          n_3,
                                                                                                                        Value.int
                                                                                                                          IntKind.i64
                                                                                                                          (0 :
                                                                                                                            Int)]))
                                                                                                                  w'))) := by kernel_rfl
/-! (*davit/stash.Stash).Give -/
def M21 : Mt := { N := 46, keep := [(0, [0, 1, 2]), (1, [0, 1, 2, 7]), (2, [0, 1, 2, 7, 12]), (3, [6]), (4, [0, 1, 2, 17]), (5, [6]), (6, [0, 1, 2, 26]), (7, [0, 1, 2]), (8, []), (9, [6])], ords := [(8, [0, 1, 2, 3, 4, 5, 6, 7, 8, 9, 10, 11, 12, 13, 14, 15, 16])], bk := [], cuts := [(8, [0, 1, 2])], lk := [] }
noncomputable def c21 : Code := bodyOf Try.f21
noncomputable def c21_0 : Code := c21.sr.sr.sr.sr
def e21_0 (p0_s : Option Addr) (p1_cpu : Int) (p2_id : Int) : Env := [(0, SV.v (Value.pointer p0_s)), (1, SV.v (Value.int IntKind.i64 p1_cpu)), (2, SV.v (Value.int IntKind.i64 p2_id))]
def k21_0 (R : Ending → World → Prop) : Cont := retK Try.prog Try.f21.results.toList R
theorem b21 : Try.f21.body = some c21 := by kernel_rfl
theorem n21 : Try.f21.ntmps = M21.N := by kernel_rfl
theorem u21 {p0_s : Option Addr} {p1_cpu : Int} {p2_id : Int} {w : World} {R : Ending → World → Prop} (h : den Try.prog M21 c21 (argE 0 [(Value.pointer p0_s), (Value.int IntKind.i64 p1_cpu), (Value.int IntKind.i64 p2_id)]) w (retK Try.prog Try.f21.results.toList R)) : Calls Try.prog 21 #[(Value.pointer p0_s), (Value.int IntKind.i64 p1_cpu), (Value.int IntKind.i64 p2_id)] w R := calls_den okProg Try.func21 b21 n21 (Nat.le_of_ble_eq_true rfl) h
theorem t21 (p0_s : Option Addr) (p1_cpu : Int) (p2_id : Int) (w : World) (R : Ending → World → Prop) : den Try.prog M21 c21 (argE 0 [(Value.pointer p0_s), (Value.int IntKind.i64 p1_cpu), (Value.int IntKind.i64 p2_id)]) w (retK Try.prog Try.f21.results.toList R) =
(Call Try.prog 35 [Value.pointer p0_s, Value.int IntKind.i64 p1_cpu] w fun e w' =>
  ∃ n,
    e = Ending.returned (Value.int IntKind.i64 n) ∧
      ((n != (0 : Int)) = true → R (Ending.returned (Value.int IntKind.i64 n)) w') ∧
        ((n != (0 : Int)) = false →
          Call Try.prog 16 [Value.pointer p0_s, Value.int IntKind.i64 p2_id] w' fun e w' =>
            ∃ b,
              e = Ending.returned (Value.bool b) ∧
                ((!b) = true → R (Ending.returned (Value.int IntKind.i64 4)) w') ∧
                  ((!b) = false →
                    ∃ a,
                      p0_s = some a ∧
                        ∃ p n c,
                          World.cell? w' (Addr.add a 2) = some (Value.slice p n c) ∧
                            ((0 : Int) ≤ p1_cpu ∧ p1_cpu < (↑n : Int)) ∧
                              ∃ a,
                                p = some a ∧
                                  ∃ p n c,
                                    World.cell? w' (Addr.add a (Int.toNat p1_cpu * 1)) =
                                        some (Value.slice p n c) ∧
                                      (decide ((↑n : Int) ≥ (4 : Int)) = true →
                                          Call Try.prog 38
                                            [Value.pointer p0_s, Value.int IntKind.i64 p1_cpu,
                                              Value.int IntKind.i64 2]
                                            w' fun e w' =>
                                            e = Ending.returned (Value.tuple #[]) ∧
                                              CutD Try.prog M21 c21_0 (e21_0 p0_s p1_cpu p2_id) w' (k21_0 R)) ∧
                                        (decide ((↑n : Int) ≥ (4 : Int)) = false →
                                          CutD Try.prog M21 c21_0 (e21_0 p0_s p1_cpu p2_id) w' (k21_0 R))))) := by kernel_rfl
theorem t21_0 (p0_s : Option Addr) (p1_cpu : Int) (p2_id : Int) (w : World) (R : Ending → World → Prop) : den Try.prog M21 c21_0 (e21_0 p0_s p1_cpu p2_id) w (k21_0 R) =
(∀ (w' : World),
  World.heap w' = World.heap w →
    World.os w' = World.os w →
      World.tape w' = World.tape w →
        World.output w' = World.output w →
          ∃ a,
            p0_s = some a ∧
              ∃ p n c,
                World.cell? w' (Addr.add a 2) = some (Value.slice p n c) ∧
                  ∃ a_1,
                    p0_s = some a_1 ∧
                      ∃ p_1 n_1 c_1,
                        World.cell? w' (Addr.add a_1 2) = some (Value.slice p_1 n_1 c_1) ∧
                          ((0 : Int) ≤ p1_cpu ∧ p1_cpu < (↑n_1 : Int)) ∧
                            ∃ a_2,
                              p_1 = some a_2 ∧
                                ∃ p_2 n_2 c_2,
                                  World.cell? w' (Addr.add a_2 (Int.toNat p1_cpu * 1)) =
                                      some (Value.slice p_2 n_2 c_2) ∧
                                    New w' [Value.int IntKind.i64 p2_id] 3 fun p_3 w' =>
                                      World.cell? w' (Addr.add a_2 (Int.toNat p1_cpu * 1)) =
                                          some (Value.slice p_2 n_2 c_2) ∧
                                        World.cell? w' (Addr.add a_1 2) = some (Value.slice p_1 n_1 c_1) ∧
                                          World.cell? w' (Addr.add a 2) = some (Value.slice p n c) ∧
                                            ∃ p_4 n_3 c_3 w'_1,
                                              Sem.run Try.prog
                                                    (Builtin.append_ #[35, 35] 35
                                                      #[Value.slice p_2 n_2 c_2,
                                                        Value.slice (some p_3) 1 1])
                                                    w' =
                                                  Result.ok (Value.slice p_4 n_3 c_3) w'_1 ∧
                                                World.cell? w'_1 (Addr.add a 2) = some (Value.slice p n c) ∧
                                                  ((0 : Int) ≤ p1_cpu ∧ p1_cpu < (↑n : Int)) ∧
                                                    ∃ a,
                                                      p = some a ∧
                                                        Wr w'_1 (Addr.add a (Int.toNat p1_cpu * 1))
                                                          [Value.slice p_4 n_3 c_3] fun w' =>
                                                          R (Ending.returned (Value.int IntKind.i64 0)) w') := by kernel_rfl
/-! (*davit/stash.Stash).Drain -/
def M22 : Mt := { N := 27, keep := [(0, [0, 1]), (1, [0, 1, 6]), (2, [0, 1, 6, 12]), (3, [4, 5]), (4, [0, 1, 7]), (5, [7]), (6, [4, 5])], ords := [], bk := [], cuts := [], lk := [] }
noncomputable def c22 : Code := bodyOf Try.f22
theorem b22 : Try.f22.body = some c22 := by kernel_rfl
theorem n22 : Try.f22.ntmps = M22.N := by kernel_rfl
theorem u22 {p0_s : Option Addr} {p1_cpu : Int} {w : World} {R : Ending → World → Prop} (h : den Try.prog M22 c22 (argE 0 [(Value.pointer p0_s), (Value.int IntKind.i64 p1_cpu)]) w (retK Try.prog Try.f22.results.toList R)) : Calls Try.prog 22 #[(Value.pointer p0_s), (Value.int IntKind.i64 p1_cpu)] w R := calls_den okProg Try.func22 b22 n22 (Nat.le_of_ble_eq_true rfl) h
theorem t22 (p0_s : Option Addr) (p1_cpu : Int) (w : World) (R : Ending → World → Prop) : den Try.prog M22 c22 (argE 0 [(Value.pointer p0_s), (Value.int IntKind.i64 p1_cpu)]) w (retK Try.prog Try.f22.results.toList R) =
(Call Try.prog 35 [Value.pointer p0_s, Value.int IntKind.i64 p1_cpu] w fun e w' =>
  ∃ n,
    e = Ending.returned (Value.int IntKind.i64 n) ∧
      ((n != (0 : Int)) = true →
          R (Ending.returned (Value.tuple #[Value.int IntKind.i64 0, Value.int IntKind.i64 n])) w') ∧
        ((n != (0 : Int)) = false →
          ∃ a,
            p0_s = some a ∧
              ∃ p n c,
                World.cell? w' (Addr.add a 2) = some (Value.slice p n c) ∧
                  ((0 : Int) ≤ p1_cpu ∧ p1_cpu < (↑n : Int)) ∧
                    ∃ a,
                      p = some a ∧
                        ∃ p n c,
                          World.cell? w' (Addr.add a (Int.toNat p1_cpu * 1)) = some (Value.slice p n c) ∧
                            Call Try.prog 38
                              [Value.pointer p0_s, Value.int IntKind.i64 p1_cpu, Value.int IntKind.i64 (↑n : Int)] w'
                              fun e w' =>
                              e = Ending.returned (Value.tuple #[]) ∧
                                R
                                  (Ending.returned
                                    (Value.tuple #[Value.int IntKind.i64 (↑n : Int), Value.int IntKind.i64 0]))
                                  w')) := by kernel_rfl
/-! davit/pool.New -/
def M23 : Mt := { N := 13, keep := [(0, [0]), (1, [0, 9]), (2, [2, 3]), (3, [2, 3])], ords := [], bk := [], cuts := [], lk := [] }
noncomputable def c23 : Code := bodyOf Try.f23
theorem b23 : Try.f23.body = some c23 := by kernel_rfl
theorem n23 : Try.f23.ntmps = M23.N := by kernel_rfl
theorem u23 {p0_pages : Int} {w : World} {R : Ending → World → Prop} (h : den Try.prog M23 c23 (argE 0 [(Value.int IntKind.i64 p0_pages)]) w (retK Try.prog Try.f23.results.toList R)) : Calls Try.prog 23 #[(Value.int IntKind.i64 p0_pages)] w R := calls_den okProg Try.func23 b23 n23 (Nat.le_of_ble_eq_true rfl) h
theorem t23 (p0_pages : Int) (w : World) (R : Ending → World → Prop) : den Try.prog M23 c23 (argE 0 [(Value.int IntKind.i64 p0_pages)]) w (retK Try.prog Try.f23.results.toList R) =
((decide (p0_pages < (1 : Int)) = false →
    (decide (p0_pages > (12 : Int)) = true →
        R (Ending.returned (Value.tuple #[Value.pointer none, Value.int IntKind.i64 2])) w) ∧
      (decide (p0_pages > (12 : Int)) = false →
        New w
          [Value.int IntKind.u8 0, Value.int IntKind.u8 0, Value.int IntKind.u8 0,
            Value.int IntKind.u8 0, Value.int IntKind.u8 0, Value.int IntKind.u8 0,
            Value.int IntKind.u8 0, Value.int IntKind.u8 0, Value.int IntKind.u8 0,
            Value.int IntKind.u8 0, Value.int IntKind.u8 0, Value.int IntKind.u8 0,
            Value.int IntKind.i64 p0_pages]
          68 fun p w' =>
          R (Ending.returned (Value.tuple #[Value.pointer (some p), Value.int IntKind.i64 0])) w')) ∧
  (decide (p0_pages < (1 : Int)) = true →
    R (Ending.returned (Value.tuple #[Value.pointer none, Value.int IntKind.i64 2])) w)) := by kernel_rfl
/-! davit/davitref07.New -/
def M24 : Mt := { N := 16, keep := [(0, [0]), (1, [0, 9]), (2, [2, 3]), (3, [2, 3])], ords := [], bk := [], cuts := [], lk := [] }
noncomputable def c24 : Code := bodyOf Try.f24
theorem b24 : Try.f24.body = some c24 := by kernel_rfl
theorem n24 : Try.f24.ntmps = M24.N := by kernel_rfl
theorem u24 {p0_pages : Int} {w : World} {R : Ending → World → Prop} (h : den Try.prog M24 c24 (argE 0 [(Value.int IntKind.i64 p0_pages)]) w (retK Try.prog Try.f24.results.toList R)) : Calls Try.prog 24 #[(Value.int IntKind.i64 p0_pages)] w R := calls_den okProg Try.func24 b24 n24 (Nat.le_of_ble_eq_true rfl) h
theorem t24 (p0_pages : Int) (w : World) (R : Ending → World → Prop) : den Try.prog M24 c24 (argE 0 [(Value.int IntKind.i64 p0_pages)]) w (retK Try.prog Try.f24.results.toList R) =
((decide (p0_pages < (1 : Int)) = false →
    (decide (p0_pages > (12 : Int)) = true →
        R (Ending.returned (Value.tuple #[Value.pointer none, Value.int IntKind.i64 2])) w) ∧
      (decide (p0_pages > (12 : Int)) = false →
        ∃ p n c w',
          Sem.run Try.prog
                (Instr.makeSlice 48
                  (Value.int IntKind.i64
                    (IntKind.wrap IntKind.i64 (IntKind.wrap IntKind.i64 ((8 : Int) * p0_pages) + (1 : Int))))
                  (Value.int IntKind.i64
                    (IntKind.wrap IntKind.i64 (IntKind.wrap IntKind.i64 ((8 : Int) * p0_pages) + (1 : Int)))))
                w =
              Result.ok (Value.slice p n c) w' ∧
            New w' [Value.slice p n c] 58 fun p w' =>
              R (Ending.returned (Value.tuple #[Value.pointer (some p), Value.int IntKind.i64 0])) w')) ∧
  (decide (p0_pages < (1 : Int)) = true →
    R (Ending.returned (Value.tuple #[Value.pointer none, Value.int IntKind.i64 2])) w)) := by kernel_rfl
/-! (*davit/davitref08.Stash).Alloc -/
def M25 : Mt := { N := 91, keep := [(0, [0, 1]), (1, [0, 1, 14]), (2, [4, 5]), (3, [0, 1, 23]), (4, [0, 1, 6]), (5, [0, 1, 6, 25]), (6, [0, 1, 6]), (7, [0, 1, 6, 7, 8]), (8, [0, 1, 6, 7, 37]), (9, [0, 1, 6]), (10, [0, 1, 9]), (11, [0, 1, 9, 63]), (12, [4, 5]), (13, [0, 1, 10]), (14, [10]), (15, [4, 5])], ords := [(9, [0, 1, 2, 3, 4, 5, 6, 7, 8, 9, 10, 11, 12, 13, 14, 15, 16]), (14, [0, 1, 2, 3, 4, 5, 6, 7, 8, 9, 10, 11, 12, 13, 14, 15])], bk := [(0, [0, 1]), (1, [0, 1, 6])], cuts := [(10, [0, 1])], lk := [(5, [0, 1, 6])] }
noncomputable def c25 : Code := bodyOf Try.f25
noncomputable def c25_0 : Code := c25.sr.sr.sr
noncomputable def c25_1 : Code := c25.sr.sr.sl.sr.sl.sr.sl.sl
def e25_0 (p0_s : Option Addr) (p1_cpu : Int) : Env := [(0, SV.v (Value.pointer p0_s)), (1, SV.v (Value.int IntKind.i64 p1_cpu))]
def e25_1 (p0_s : Option Addr) (p1_cpu : Int) (p6_i : Int) : Env := [(0, SV.v (Value.pointer p0_s)), (1, SV.v (Value.int IntKind.i64 p1_cpu)), (6, SV.v (Value.int IntKind.i64 p6_i))]
def k25_0 (R : Ending → World → Prop) : Cont := retK Try.prog Try.f25.results.toList R
def k25_1 (R : Ending → World → Prop) : Cont := blockK 0 [0, 1] (seqK (fun E w => cutB (findL M25.cuts (headReg c25_0)) Try.prog M25 c25_0 E w (retK Try.prog Try.f25.results.toList R) fun E => den Try.prog M25 c25_0 E w (retK Try.prog Try.f25.results.toList R)) (retK Try.prog Try.f25.results.toList R))
theorem b25 : Try.f25.body = some c25 := by kernel_rfl
theorem n25 : Try.f25.ntmps = M25.N := by kernel_rfl
theorem u25 {p0_s : Option Addr} {p1_cpu : Int} {w : World} {R : Ending → World → Prop} (h : den Try.prog M25 c25 (argE 0 [(Value.pointer p0_s), (Value.int IntKind.i64 p1_cpu)]) w (retK Try.prog Try.f25.results.toList R)) : Calls Try.prog 25 #[(Value.pointer p0_s), (Value.int IntKind.i64 p1_cpu)] w R := calls_den okProg Try.func25 b25 n25 (Nat.le_of_ble_eq_true rfl) h
theorem t25 (p0_s : Option Addr) (p1_cpu : Int) (w : World) (R : Ending → World → Prop) : den Try.prog M25 c25 (argE 0 [(Value.pointer p0_s), (Value.int IntKind.i64 p1_cpu)]) w (retK Try.prog Try.f25.results.toList R) =
(Call Try.prog 18 [Value.pointer p0_s, Value.int IntKind.i64 p1_cpu] w fun e w' =>
  ∃ b,
    e = Ending.returned (Value.bool b) ∧
      ((!b) = true →
          R (Ending.returned (Value.tuple #[Value.int IntKind.i64 0, Value.int IntKind.i64 3])) w') ∧
        ((!b) = false →
          ∃ a,
            p0_s = some a ∧
              ∃ p n c,
                World.cell? w' (Addr.add a 1) = some (Value.slice p n c) ∧
                  ((0 : Int) ≤ p1_cpu ∧ p1_cpu < (↑n : Int)) ∧
                    ∃ a,
                      p = some a ∧
                        ∃ p n c,
                          World.cell? w' (Addr.add a (Int.toNat p1_cpu * 1)) = some (Value.slice p n c) ∧
                            (((↑n : Int) == (0 : Int)) = true →
                                Cut
                                  (WP Try.prog 91 (Code.loop c25_1) (e25_1 p0_s p1_cpu (0 : Int)) w'
                                    (k25_1 R))) ∧
                              (((↑n : Int) == (0 : Int)) = false →
                                CutD Try.prog M25 c25_0 (e25_0 p0_s p1_cpu) w' (k25_0 R)))) := by kernel_rfl
theorem t25_0 (p0_s : Option Addr) (p1_cpu : Int) (w : World) (R : Ending → World → Prop) : den Try.prog M25 c25_0 (e25_0 p0_s p1_cpu) w (k25_0 R) =
(∃ a,
  p0_s = some a ∧
    ∃ p n c,
      World.cell? w (Addr.add a 1) = some (Value.slice p n c) ∧
        ((0 : Int) ≤ p1_cpu ∧ p1_cpu < (↑n : Int)) ∧
          ∃ a,
            p = some a ∧
              ∃ p n c,
                World.cell? w (Addr.add a (Int.toNat p1_cpu * 1)) = some (Value.slice p n c) ∧
                  (((↑n : Int) == (0 : Int)) = true →
                      R
                        (Ending.returned
                          (Value.tuple #[Value.int IntKind.i64 0, Value.int IntKind.i64 5]))
                        w) ∧
                    (((↑n : Int) == (0 : Int)) = false →
                      ∃ a,
                        p0_s = some a ∧
                          ∃ p n_1 c,
                            World.cell? w (Addr.add a 1) = some (Value.slice p n_1 c) ∧
                              ((0 : Int) ≤ p1_cpu ∧ p1_cpu < (↑n_1 : Int)) ∧
                                ∃ a,
                                  p = some a ∧
                                    ∃ p n_2 c,
                                      World.cell? w (Addr.add a (Int.toNat p1_cpu * 1)) =
                                          some (Value.slice p n_2 c) ∧
                                        ((0 : Int) ≤ IntKind.wrap IntKind.i64 ((↑n : Int) - (1 : Int)) ∧
                                            IntKind.wrap IntKind.i64 ((↑n : Int) - (1 : Int)) < (↑n_2 : Int)) ∧
                                          ∃ a,
                                            p = some a ∧
                                              ∃ n_3,
                                                World.cell? w
                                                      (Addr.add a
                                                        (Int.toNat (IntKind.wrap IntKind.i64 ((↑n : Int) - (1 : Int))) *
                                                          1)) =
                                                    some (Value.int IntKind.i64 n_3) ∧
                                                  ∀ (w' : World),
                                                    World.heap w' = World.heap w →
                                                      World.os w' = World.os w →
                                                        World.tape w' = World.tape w →
                                                          World.output w' = World.output w →
                                                            ∃ a,
                                                              p0_s = some a ∧
                                                                ∃ p n c,
                                                                  World.cell? w' (Addr.add a 1) =
                                                                      some (Value.slice p n c) ∧
                                                                    ∃ a_1,
                                                                      p0_s = some a_1 ∧
                                                                        ∃ p_1 n_4 c_1,
                                                                          World.cell? w' (Addr.add a_1 1) =
                                                                              some (Value.slice p_1 n_4 c_1) ∧
                                                                            ((0 : Int) ≤ p1_cpu ∧
                                                                                p1_cpu < (↑n_4 : Int)) ∧
                                                                              ∃ a_2,
                                                                                p_1 = some a_2 ∧
                                                                                  ∃ p_2 n_5 c_2,
                                                                                    World.cell? w'
                                                                                          (Addr.add a_2
                                                                                            (Int.toNat p1_cpu *
                                                                                              1)) =
                                                                                        some (Value.slice p_2 n_5 c_2) ∧
                                                                                      Call Try.prog 40
                                                                                        [Value.slice p_2 n_5 c_2,
                                                                                          Value.int IntKind.i64 n_3]
                                                                                        w' fun e w' =>
                                                                                        ∃ p_3 n_6 c_3,
                                                                                          e =
                                                                                              Ending.returned
                                                                                                (Value.slice p_3 n_6
                                                                                                  c_3) ∧
                                                                                            World.cell? w'
                                                                                                  (Addr.add a
                                                                                                    1) =
                                                                                                some
                                                                                                  (Value.slice p n c) ∧
                                                                                              ((0 : Int) ≤ p1_cpu ∧
                                                                                                  p1_cpu <
                                                                                                    (↑n : Int)) ∧
                                                                                                ∃ a,
                                                                                                  p = some a ∧
                                                                                                    Wr w'
                                                                                                      (Addr.add a
                                                                                                        (Int.toNat
                                                                                                            p1_cpu *
                                                                                                          1))
                                                                                                      [Value.slice p_3
                                                                                                          n_6 c_3]
                                                                                                      fun w' =>
                                                                                                      R
                                                                                                        (Ending.returned
                                                                                                          (Value.tuple
                                                                                                            #[Value.int
                                                                                                                IntKind.i64
                                                                                                                n_3,
                                                                                                              Value.int
                                                                                                                IntKind.i64
                                                                                                                (0 :
                                                                                                                  Int)]))
                                                                                                        w')) := by kernel_rfl
theorem t25_1 (p0_s : Option Addr) (p1_cpu : Int) (p6_i : Int) (w : World) (B25_1 : Env → World → Prop) (R : Ending → World → Prop) : den Try.prog M25 c25_1 (e25_1 p0_s p1_cpu p6_i) w (loopK B25_1 (k25_1 R)) =
((decide (p6_i < (2 : Int)) = true →
    ∃ a,
      p0_s = some a ∧
        ∃ p,
          World.cell? w (Addr.add a 0) = some (Value.pointer p) ∧
            Call Try.prog 39 [Value.pointer p] w fun e w' =>
              ∃ n n_1,
                e = Ending.returned (Value.tuple #[Value.int IntKind.i64 n, Value.int IntKind.i64 n_1]) ∧
                  ((n_1 == (0 : Int)) = true →
                      ∀ (w'_1 : World),
                        World.heap w'_1 = World.heap w' →
                          World.os w'_1 = World.os w' →
                            World.tape w'_1 = World.tape w' →
                              World.output w'_1 = World.output w' →
                                ∃ a,
                                  p0_s = some a ∧
                                    ∃ p n_2 c,
                                      World.cell? w'_1 (Addr.add a 1) = some (Value.slice p n_2 c) ∧
                                        ∃ a_1,
                                          p0_s = some a_1 ∧
                                            ∃ p_1 n_3 c_1,
                                              World.cell? w'_1 (Addr.add a_1 1) =
                                                  some (Value.slice p_1 n_3 c_1) ∧
                                                ((0 : Int) ≤ p1_cpu ∧ p1_cpu < (↑n_3 : Int)) ∧
                                                  ∃ a_2,
                                                    p_1 = some a_2 ∧
                                                      ∃ p_2 n_4 c_2,
                                                        World.cell? w'_1
                                                              (Addr.add a_2 (Int.toNat p1_cpu * 1)) =
                                                            some (Value.slice p_2 n_4 c_2) ∧
                                                          New w'_1 [Value.int IntKind.i64 n] 3 fun p_3 w' =>
                                                            World.cell? w'
                                                                  (Addr.add a_2 (Int.toNat p1_cpu * 1)) =
                                                                some (Value.slice p_2 n_4 c_2) ∧
                                                              World.cell? w' (Addr.add a_1 1) =
                                                                  some (Value.slice p_1 n_3 c_1) ∧
                                                                World.cell? w' (Addr.add a 1) =
                                                                    some (Value.slice p n_2 c) ∧
                                                                  ∃ p_4 n c_3 w'_2,
                                                                    Sem.run Try.prog
                                                                          (Builtin.append_ #[35, 35]
                                                                            35
                                                                            #[Value.slice p_2 n_4 c_2,
                                                                              Value.slice (some p_3) 1
                                                                                1])
                                                                          w' =
                                                                        Result.ok (Value.slice p_4 n c_3) w'_2 ∧
                                                                      World.cell? w'_2 (Addr.add a 1) =
                                                                          some (Value.slice p n_2 c) ∧
                                                                        ((0 : Int) ≤ p1_cpu ∧ p1_cpu < (↑n_2 : Int)) ∧
                                                                          ∃ a,
                                                                            p = some a ∧
                                                                              Wr w'_2
                                                                                (Addr.add a
                                                                                  (Int.toNat p1_cpu * 1))
                                                                                [Value.slice p_4 n c_3] fun w' =>
                                                                                B25_1
                                                                                  [(0,
                                                                                      SV.v (Value.pointer p0_s)),
                                                                                    (1,
                                                                                      SV.v
                                                                                        (Value.int IntKind.i64
                                                                                          p1_cpu)),
                                                                                    (6,
                                                                                      SV.v
                                                                                        (Value.int IntKind.i64
                                                                                          (IntKind.wrap IntKind.i64
                                                                                            (p6_i + (1 : Int)))))]
                                                                                  w') ∧
                    ((n_1 == (0 : Int)) = false →
                      B25_1
                        [(0, SV.v (Value.pointer p0_s)), (1, SV.v (Value.int IntKind.i64 p1_cpu)),
                          (6, SV.v (Value.int IntKind.i64 (IntKind.wrap IntKind.i64 (p6_i + (1 : Int)))))]
                        w')) ∧
  (decide (p6_i < (2 : Int)) = false → CutD Try.prog M25 c25_0 (e25_0 p0_s p1_cpu) w (k25_0 R))) := by kernel_rfl
/-! (*davit/davitref08.Stash).Give -/
def M26 : Mt := { N := 82, keep := [(0, [0, 1, 2]), (1, [0, 1, 2, 10]), (2, [6]), (3, [0, 1, 2, 14]), (4, [6]), (5, [0, 1, 2, 23]), (6, [0, 1, 2]), (7, [0, 1, 2]), (8, [0, 1, 2]), (9, []), (10, [6])], ords := [(6, [0, 1, 2, 3, 4, 5, 6, 7, 8, 9, 10, 11, 12, 13]), (7, [0, 1, 2, 3, 4, 5, 6, 7, 8, 9, 10, 11, 12, 13]), (8, [0, 1, 2, 3, 4, 5, 6, 7, 8, 9, 10, 11, 12, 13, 14]), (9, [0, 1, 2, 3, 4, 5, 6, 7, 8, 9, 10, 11, 12, 13, 14, 15, 16])], bk := [], cuts := [(9, [0, 1, 2])], lk := [] }
noncomputable def c26 : Code := bodyOf Try.f26
noncomputable def c26_0 : Code := c26.sr.sr.sr.sr
def e26_0 (p0_s : Option Addr) (p1_cpu : Int) (p2_id : Int) : Env := [(0, SV.v (Value.pointer p0_s)), (1, SV.v (Value.int IntKind.i64 p1_cpu)), (2, SV.v (Value.int IntKind.i64 p2_id))]
def k26_0 (R : Ending → World → Prop) : Cont := retK Try.prog Try.f26.results.toList R
theorem b26 : Try.f26.body = some c26 := by kernel_rfl
theorem n26 : Try.f26.ntmps = M26.N := by kernel_rfl
theorem u26 {p0_s : Option Addr} {p1_cpu : Int} {p2_id : Int} {w : World} {R : Ending → World → Prop} (h : den Try.prog M26 c26 (argE 0 [(Value.pointer p0_s), (Value.int IntKind.i64 p1_cpu), (Value.int IntKind.i64 p2_id)]) w (retK Try.prog Try.f26.results.toList R)) : Calls Try.prog 26 #[(Value.pointer p0_s), (Value.int IntKind.i64 p1_cpu), (Value.int IntKind.i64 p2_id)] w R := calls_den okProg Try.func26 b26 n26 (Nat.le_of_ble_eq_true rfl) h
theorem t26 (p0_s : Option Addr) (p1_cpu : Int) (p2_id : Int) (w : World) (R : Ending → World → Prop) : den Try.prog M26 c26 (argE 0 [(Value.pointer p0_s), (Value.int IntKind.i64 p1_cpu), (Value.int IntKind.i64 p2_id)]) w (retK Try.prog Try.f26.results.toList R) =
(Call Try.prog 18 [Value.pointer p0_s, Value.int IntKind.i64 p1_cpu] w fun e w' =>
  ∃ b,
    e = Ending.returned (Value.bool b) ∧
      ((!b) = true → R (Ending.returned (Value.int IntKind.i64 3)) w') ∧
        ((!b) = false →
          Call Try.prog 17 [Value.pointer p0_s, Value.int IntKind.i64 p2_id] w' fun e w' =>
            ∃ b,
              e = Ending.returned (Value.bool b) ∧
                ((!b) = true → R (Ending.returned (Value.int IntKind.i64 4)) w') ∧
                  ((!b) = false →
                    ∃ a,
                      p0_s = some a ∧
                        ∃ p n c,
                          World.cell? w' (Addr.add a 1) = some (Value.slice p n c) ∧
                            ((0 : Int) ≤ p1_cpu ∧ p1_cpu < (↑n : Int)) ∧
                              ∃ a,
                                p = some a ∧
                                  ∃ p n c,
                                    World.cell? w' (Addr.add a (Int.toNat p1_cpu * 1)) =
                                        some (Value.slice p n c) ∧
                                      (decide ((↑n : Int) ≥ (4 : Int)) = true →
                                          ∀ (w'_1 : World),
                                            World.heap w'_1 = World.heap w' →
                                              World.os w'_1 = World.os w' →
                                                World.tape w'_1 = World.tape w' →
                                                  World.output w'_1 = World.output w' →
                                                    ∃ a,
                                                      p0_s = some a ∧
                                                        ∃ p,
                                                          World.cell? w'_1 (Addr.add a 0) =
                                                              some (Value.pointer p) ∧
                                                            ∃ a,
                                                              p0_s = some a ∧
                                                                ∃ p_1 n c,
                                                                  World.cell? w'_1 (Addr.add a 1) =
                                                                      some (Value.slice p_1 n c) ∧
                                                                    ((0 : Int) ≤ p1_cpu ∧ p1_cpu < (↑n : Int)) ∧
                                                                      ∃ a,
                                                                        p_1 = some a ∧
                                                                          ∃ p_2 n c,
                                                                            World.cell? w'_1
                                                                                  (Addr.add a
                                                                                    (Int.toNat p1_cpu * 1)) =
                                                                                some (Value.slice p_2 n c) ∧
                                                                              ((0 : Int) ≤ (0 : Int) ∧
                                                                                  (0 : Int) < (↑n : Int)) ∧
                                                                                ∃ a,
                                                                                  p_2 = some a ∧
                                                                                    ∃ n,
                                                                                      World.cell? w'_1
                                                                                            (Addr.add a 0) =
                                                                                          some
                                                                                            (Value.int IntKind.i64 n) ∧
                                                                                        Call Try.prog 41
                                                                                          [Value.pointer p,
                                                                                            Value.int IntKind.i64 n]
                                                                                          w'_1 fun e w' =>
                                                                                          ∃ n,
                                                                                            e =
                                                                                                Ending.returned
                                                                                                  (Value.int IntKind.i64
                                                                                                    n) ∧
                                                                                              ∀ (w'_2 : World),
                                                                                                World.heap w'_2 =
                                                                                                    World.heap w' →
                                                                                                  World.os w'_2 =
                                                                                                      World.os w' →
                                                                                                    World.tape w'_2 =
                                                                                                        World.tape w' →
                                                                                                      World.output
                                                                                                            w'_2 =
                                                                                                          World.output
                                                                                                            w' →
                                                                                                        ∃ a,
                                                                                                          p0_s =
                                                                                                              some a ∧
                                                                                                            ∃ p,
                                                                                                              World.cell?
                                                                                                                    w'_2
                                                                                                                    (Addr.add
                                                                                                                      a
                                                                                                                      0) =
                                                                                                                  some
                                                                                                                    (Value.pointer
                                                                                                                      p) ∧
                                                                                                                ∃ a,
                                                                                                                  p0_s =
                                                                                                                      some
                                                                                                                        a ∧
                                                                                                                    ∃
                                                                                                                      p_3
                                                                                                                      n
                                                                                                                      c,
                                                                                                                      World.cell?
                                                                                                                            w'_2
                                                                                                                            (Addr.add
                                                                                                                              a
                                                                                                                              1) =
                                                                                                                          some
                                                                                                                            (Value.slice
                                                                                                                              p_3
                                                                                                                              n
                                                                                                                              c) ∧
                                                                                                                        ((0 :
                                                                                                                                Int) ≤
                                                                                                                              p1_cpu ∧
                                                                                                                            p1_cpu <
                                                                                                                              (↑n :
                                                                                                                                Int)) ∧
                                                                                                                          ∃
                                                                                                                            a,
                                                                                                                            p_3 =
                                                                                                                                some
                                                                                                                                  a ∧
                                                                                                                              ∃
                                                                                                                                p_4
                                                                                                                                n
                                                                                                                                c,
                                                                                                                                World.cell?
                                                                                                                                      w'_2
                                                                                                                                      (Addr.add
                                                                                                                                        a
                                                                                                                                        (Int.toNat
                                                                                                                                            p1_cpu *
                                                                                                                                          1)) =
                                                                                                                                    some
                                                                                                                                      (Value.slice
                                                                                                                                        p_4
                                                                                                                                        n
                                                                                                                                        c) ∧
                                                                                                                                  ((0 :
                                                                                                                                          Int) ≤
                                                                                                                                        (1 :
                                                                                                                                          Int) ∧
                                                                                                                                      (1 :
                                                                                                                                          Int) <
                                                                                                                                        (↑n :
                                                                                                                                          Int)) ∧
                                                                                                                                    ∃
                                                                                                                                      a,
                                                                                                                                      p_4 =
                                                                                                                                          some
                                                                                                                                            a ∧
                                                                                                                                        ∃
                                                                                                                                          n,
                                                                                                                                          World.cell?
                                                                                                                                                w'_2
                                                                                                                                                (Addr.add
                                                                                                                                                  a
                                                                                                                                                  1) =
                                                                                                                                              some
                                                                                                                                                (Value.int
                                                                                                                                                  IntKind.i64
                                                                                                                                                  n) ∧
                                                                                                                                            Call
                                                                                                                                              Try.prog
                                                                                                                                              41
                                                                                                                                              [Value.pointer
                                                                                                                                                  p,
                                                                                                                                                Value.int
                                                                                                                                                  IntKind.i64
                                                                                                                                                  n]
                                                                                                                                              w'_2
                                                                                                                                              fun
                                                                                                                                                e
                                                                                                                                                w' =>
                                                                                                                                              ∃
                                                                                                                                                n,
                                                                                                                                                e =
                                                                                                                                                    Ending.returned
                                                                                                                                                      (Value.int
                                                                                                                                                        IntKind.i64
                                                                                                                                                        n) ∧
                                                                                                                                                  ∀
                                                                                                                                                    (w'_3 :
                                                                                                                                                      World),
                                                                                                                                                    World.heap
                                                                                                                                                          w'_3 =
                                                                                                                                                        World.heap
                                                                                                                                                          w' →
                                                                                                                                                      World.os
                                                                                                                                                            w'_3 =
                                                                                                                                                          World.os
                                                                                                                                                            w' →
                                                                                                                                                        World.tape
                                                                                                                                                              w'_3 =
                                                                                                                                                            World.tape
                                                                                                                                                              w' →
                                                                                                                                                          World.output
                                                                                                                                                                w'_3 =
                                                                                                                                                              World.output
                                                                                                                                                                w' →
                                                                                                                                                            ∃
                                                                                                                                                              a,
                                                                                                                                                              p0_s =
                                                                                                                                                                  some
                                                                                                                                                                    a ∧
                                                                                                                                                                ∃
                                                                                                                                                                  p
                                                                                                                                                                  n
                                                                                                                                                                  c,
                                                                                                                                                                  World.cell?
                                                                                                                                                                        w'_3
                                                                                                                                                                        (Addr.add
                                                                                                                                                                          a
                                                                                                                                                                          1) =
                                                                                                                                                                      some
                                                                                                                                                                        (Value.slice
                                                                                                                                                                          p
                                                                                                                                                                          n
                                                                                                                                                                          c) ∧
                                                                                                                                                                    ∃
                                                                                                                                                                      a,
                                                                                                                                                                      p0_s =
                                                                                                                                                                          some
                                                                                                                                                                            a ∧
                                                                                                                                                                        ∃
                                                                                                                                                                          p_5
                                                                                                                                                                          n_1
                                                                                                                                                                          c,
                                                                                                                                                                          World.cell?
                                                                                                                                                                                w'_3
                                                                                                                                                                                (Addr.add
                                                                                                                                                                                  a
                                                                                                                                                                                  1) =
                                                                                                                                                                              some
                                                                                                                                                                                (Value.slice
                                                                                                                                                                                  p_5
                                                                                                                                                                                  n_1
                                                                                                                                                                                  c) ∧
                                                                                                                                                                            ((0 :
                                                                                                                                                                                    Int) ≤
                                                                                                                                                                                  p1_cpu ∧
                                                                                                                                                                                p1_cpu <
                                                                                                                                                                                  (↑n_1 :
                                                                                                                                                                                    Int)) ∧
                                                                                                                                                                              ∃
                                                                                                                                                                                a,
                                                                                                                                                                                p_5 =
                                                                                                                                                                                    some
                                                                                                                                                                                      a ∧
                                                                                                                                                                                  ∃
                                                                                                                                                                                    p_6
                                                                                                                                                                                    n_2
                                                                                                                                                                                    c,
                                                                                                                                                                                    World.cell?
                                                                                                                                                                                          w'_3
                                                                                                                                                                                          (Addr.add
                                                                                                                                                                                            a
                                                                                                                                                                                            (Int.toNat
                                                                                                                                                                                                p1_cpu *
                                                                                                                                                                                              1)) =
                                                                                                                                                                                        some
                                                                                                                                                                                          (Value.slice
                                                                                                                                                                                            p_6
                                                                                                                                                                                            n_2
                                                                                                                                                                                            c) ∧
                                                                                                                                                                                      ((0 :
                                                                                                                                                                                              Int) ≤
                                                                                                                                                                                            (2 :
                                                                                                                                                                                              Int) ∧
                                                                                                                                                                                          (2 :
                                                                                                                                                                                              Int) ≤
                                                                                                                                                                                            (↑n_2 :
                                                                                                                                                                                              Int)) ∧
                                                                                                                                                                                        ((0 :
                                                                                                                                                                                                Int) ≤
                                                                                                                                                                                              p1_cpu ∧
                                                                                                                                                                                            p1_cpu <
                                                                                                                                                                                              (↑n :
                                                                                                                                                                                                Int)) ∧
                                                                                                                                                                                          ∃
                                                                                                                                                                                            a,
                                                                                                                                                                                            p =
                                                                                                                                                                                                some
                                                                                                                                                                                                  a ∧
                                                                                                                                                                                              Wr
                                                                                                                                                                                                w'_3
                                                                                                                                                                                                (Addr.add
                                                                                                                                                                                                  a
                                                                                                                                                                                                  (Int.toNat
                                                                                                                                                                                                      p1_cpu *
                                                                                                                                                                                                    1))
                                                                                                                                                                                                [Value.slice
                                                                                                                                                                                                    (subA
                                                                                                                                                                                                      p_6
                                                                                                                                                                                                      c
                                                                                                                                                                                                      2
                                                                                                                                                                                                      1)
                                                                                                                                                                                                    (n_2 -
                                                                                                                                                                                                      2)
                                                                                                                                                                                                    (c -
                                                                                                                                                                                                      2)]
                                                                                                                                                                                                fun
                                                                                                                                                                                                  w' =>
                                                                                                                                                                                                CutD
                                                                                                                                                                                                  Try.prog
                                                                                                                                                                                                  M26
                                                                                                                                                                                                  c26_0
                                                                                                                                                                                                  (e26_0
                                                                                                                                                                                                    p0_s
                                                                                                                                                                                                    p1_cpu
                                                                                                                                                                                                    p2_id)
                                                                                                                                                                                                  w'
                                                                                                                                                                                                  (k26_0
                                                                                                                                                                                                    R)) ∧
                                        (decide ((↑n : Int) ≥ (4 : Int)) = false →
                                          CutD Try.prog M26 c26_0 (e26_0 p0_s p1_cpu p2_id) w' (k26_0 R))))) := by kernel_rfl
theorem t26_0 (p0_s : Option Addr) (p1_cpu : Int) (p2_id : Int) (w : World) (R : Ending → World → Prop) : den Try.prog M26 c26_0 (e26_0 p0_s p1_cpu p2_id) w (k26_0 R) =
(∀ (w' : World),
  World.heap w' = World.heap w →
    World.os w' = World.os w →
      World.tape w' = World.tape w →
        World.output w' = World.output w →
          ∃ a,
            p0_s = some a ∧
              ∃ p n c,
                World.cell? w' (Addr.add a 1) = some (Value.slice p n c) ∧
                  ∃ a_1,
                    p0_s = some a_1 ∧
                      ∃ p_1 n_1 c_1,
                        World.cell? w' (Addr.add a_1 1) = some (Value.slice p_1 n_1 c_1) ∧
                          ((0 : Int) ≤ p1_cpu ∧ p1_cpu < (↑n_1 : Int)) ∧
                            ∃ a_2,
                              p_1 = some a_2 ∧
                                ∃ p_2 n_2 c_2,
                                  World.cell? w' (Addr.add a_2 (Int.toNat p1_cpu * 1)) =
                                      some (Value.slice p_2 n_2 c_2) ∧
                                    New w' [Value.int IntKind.i64 p2_id] 3 fun p_3 w' =>
                                      World.cell? w' (Addr.add a_2 (Int.toNat p1_cpu * 1)) =
                                          some (Value.slice p_2 n_2 c_2) ∧
                                        World.cell? w' (Addr.add a_1 1) = some (Value.slice p_1 n_1 c_1) ∧
                                          World.cell? w' (Addr.add a 1) = some (Value.slice p n c) ∧
                                            ∃ p_4 n_3 c_3 w'_1,
                                              Sem.run Try.prog
                                                    (Builtin.append_ #[35, 35] 35
                                                      #[Value.slice p_2 n_2 c_2,
                                                        Value.slice (some p_3) 1 1])
                                                    w' =
                                                  Result.ok (Value.slice p_4 n_3 c_3) w'_1 ∧
                                                World.cell? w'_1 (Addr.add a 1) = some (Value.slice p n c) ∧
                                                  ((0 : Int) ≤ p1_cpu ∧ p1_cpu < (↑n : Int)) ∧
                                                    ∃ a,
                                                      p = some a ∧
                                                        Wr w'_1 (Addr.add a (Int.toNat p1_cpu * 1))
                                                          [Value.slice p_4 n_3 c_3] fun w' =>
                                                          R (Ending.returned (Value.int IntKind.i64 0)) w') := by kernel_rfl
/-! (*davit/davitref08.Stash).Drain -/
def M27 : Mt := { N := 47, keep := [(0, [0, 1]), (1, [0, 1, 11]), (2, [4, 5]), (3, [0, 1, 6]), (4, [0, 1, 6, 7]), (5, [0, 1, 6, 7, 22]), (6, [0, 1, 6, 7]), (7, [0, 1, 6, 7]), (8, [6]), (9, [4, 5])], ords := [(7, [0, 1, 2, 3, 4, 5, 6, 7, 8, 9, 10, 11, 12, 13, 14])], bk := [(0, [0, 1, 6]), (1, [0, 1, 6, 7])], cuts := [(8, [0, 1, 6])], lk := [(5, [0, 1, 6, 7])] }
noncomputable def c27 : Code := bodyOf Try.f27
noncomputable def c27_0 : Code := c27.sr.sr.sr.sr
noncomputable def c27_1 : Code := c27.sr.sr.sr.sl.sr.sl.sl
def e27_0 (p0_s : Option Addr) (p1_cpu : Int) (p6_n : Int) : Env := [(0, SV.v (Value.pointer p0_s)), (1, SV.v (Value.int IntKind.i64 p1_cpu)), (6, SV.v (Value.int IntKind.i64 p6_n))]
def e27_1 (p0_s : Option Addr) (p1_cpu : Int) (p6_n : Int) (p7_i : Int) : Env := [(0, SV.v (Value.pointer p0_s)), (1, SV.v (Value.int IntKind.i64 p1_cpu)), (6, SV.v (Value.int IntKind.i64 p6_n)), (7, SV.v (Value.int IntKind.i64 p7_i))]
def k27_0 (R : Ending → World → Prop) : Cont := retK Try.prog Try.f27.results.toList R
def k27_1 (R : Ending → World → Prop) : Cont := blockK 0 [0, 1, 6] (seqK (fun E w => cutB (findL M27.cuts (headReg c27_0)) Try.prog M27 c27_0 E w (retK Try.prog Try.f27.results.toList R) fun E => den Try.prog M27 c27_0 E w (retK Try.prog Try.f27.results.toList R)) (retK Try.prog Try.f27.results.toList R))
theorem b27 : Try.f27.body = some c27 := by kernel_rfl
theorem n27 : Try.f27.ntmps = M27.N := by kernel_rfl
theorem u27 {p0_s : Option Addr} {p1_cpu : Int} {w : World} {R : Ending → World → Prop} (h : den Try.prog M27 c27 (argE 0 [(Value.pointer p0_s), (Value.int IntKind.i64 p1_cpu)]) w (retK Try.prog Try.f27.results.toList R)) : Calls Try.prog 27 #[(Value.pointer p0_s), (Value.int IntKind.i64 p1_cpu)] w R := calls_den okProg Try.func27 b27 n27 (Nat.le_of_ble_eq_true rfl) h
theorem t27 (p0_s : Option Addr) (p1_cpu : Int) (w : World) (R : Ending → World → Prop) : den Try.prog M27 c27 (argE 0 [(Value.pointer p0_s), (Value.int IntKind.i64 p1_cpu)]) w (retK Try.prog Try.f27.results.toList R) =
(Call Try.prog 18 [Value.pointer p0_s, Value.int IntKind.i64 p1_cpu] w fun e w' =>
  ∃ b,
    e = Ending.returned (Value.bool b) ∧
      ((!b) = true →
          R (Ending.returned (Value.tuple #[Value.int IntKind.i64 0, Value.int IntKind.i64 3])) w') ∧
        ((!b) = false →
          ∃ a,
            p0_s = some a ∧
              ∃ p n c,
                World.cell? w' (Addr.add a 1) = some (Value.slice p n c) ∧
                  ((0 : Int) ≤ p1_cpu ∧ p1_cpu < (↑n : Int)) ∧
                    ∃ a,
                      p = some a ∧
                        ∃ p n c,
                          World.cell? w' (Addr.add a (Int.toNat p1_cpu * 1)) = some (Value.slice p n c) ∧
                            Cut
                              (WP Try.prog 47 (Code.loop c27_1) (e27_1 p0_s p1_cpu (↑n : Int) (0 : Int)) w'
                                (k27_1 R)))) := by kernel_rfl
theorem t27_0 (p0_s : Option Addr) (p1_cpu : Int) (p6_n : Int) (w : World) (R : Ending → World → Prop) : den Try.prog M27 c27_0 (e27_0 p0_s p1_cpu p6_n) w (k27_0 R) =
(∃ a,
  p0_s = some a ∧
    ∃ p n c,
      World.cell? w (Addr.add a 1) = some (Value.slice p n c) ∧
        ((0 : Int) ≤ p1_cpu ∧ p1_cpu < (↑n : Int)) ∧
          ∃ a,
            p = some a ∧
              Wr w (Addr.add a (Int.toNat p1_cpu * 1)) [Value.slice none 0 0] fun w' =>
                R (Ending.returned (Value.tuple #[Value.int IntKind.i64 p6_n, Value.int IntKind.i64 0])) w') := by kernel_rfl
theorem t27_1 (p0_s : Option Addr) (p1_cpu : Int) (p6_n : Int) (p7_i : Int) (w : World) (B27_1 : Env → World → Prop) (R : Ending → World → Prop) : den Try.prog M27 c27_1 (e27_1 p0_s p1_cpu p6_n p7_i) w (loopK B27_1 (k27_1 R)) =
((decide (p7_i < p6_n) = true →
    ∀ (w' : World),
      World.heap w' = World.heap w →
        World.os w' = World.os w →
          World.tape w' = World.tape w →
            World.output w' = World.output w →
              ∃ a,
                p0_s = some a ∧
                  ∃ p,
                    World.cell? w' (Addr.add a 0) = some (Value.pointer p) ∧
                      ∃ a,
                        p0_s = some a ∧
                          ∃ p_1 n c,
                            World.cell? w' (Addr.add a 1) = some (Value.slice p_1 n c) ∧
                              ((0 : Int) ≤ p1_cpu ∧ p1_cpu < (↑n : Int)) ∧
                                ∃ a,
                                  p_1 = some a ∧
                                    ∃ p_2 n c,
                                      World.cell? w' (Addr.add a (Int.toNat p1_cpu * 1)) =
                                          some (Value.slice p_2 n c) ∧
                                        ((0 : Int) ≤ p7_i ∧ p7_i < (↑n : Int)) ∧
                                          ∃ a,
                                            p_2 = some a ∧
                                              ∃ n,
                                                World.cell? w' (Addr.add a (Int.toNat p7_i * 1)) =
                                                    some (Value.int IntKind.i64 n) ∧
                                                  Call Try.prog 41 [Value.pointer p, Value.int IntKind.i64 n] w'
                                                    fun e w' =>
                                                    ∃ n,
                                                      e = Ending.returned (Value.int IntKind.i64 n) ∧
                                                        B27_1
                                                          [(0, SV.v (Value.pointer p0_s)),
                                                            (1, SV.v (Value.int IntKind.i64 p1_cpu)),
                                                            (6, SV.v (Value.int IntKind.i64 p6_n)),
                                                            (7,
                                                              SV.v
                                                                (Value.int IntKind.i64
                                                                  (IntKind.wrap IntKind.i64 (p7_i + (1 : Int)))))]
                                                          w') ∧
  (decide (p7_i < p6_n) = false → CutD Try.prog M27 c27_0 (e27_0 p0_s p1_cpu p6_n) w (k27_0 R))) := by kernel_rfl
end Go.Dav
