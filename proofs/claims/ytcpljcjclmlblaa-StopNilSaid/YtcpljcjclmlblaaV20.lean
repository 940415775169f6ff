/- What functions of the program come to. -/
import Derived.Test.YtcpljcjclmlblaaPrg20
namespace Go.Dav
open Go.Proofs
/-! davit/davitlaw20.StopAll -/
def M3 : Mt := { N := 64, keep := [(0, [0, 1]), (1, [0, 1, 5]), (2, [0, 1, 5, 14]), (3, [4]), (4, [1, 5, 6]), (5, [1, 5, 6, 7]), (6, [1, 5, 6, 7, 28]), (7, [1, 5, 6, 7]), (8, [1, 5, 6, 7, 8]), (9, [1, 5, 6, 7, 45]), (10, [4]), (11, [1, 5, 6, 7]), (12, [1, 5, 6, 7, 56]), (13, [4]), (14, [4])], ords := [], bk := [(0, [5, 6]), (1, [1, 5, 6, 7])], cuts := [(14, [5, 6])], lk := [(6, [1, 5, 6, 7])] }
noncomputable def c3 : Code := bodyOf Try.f3
noncomputable def c3_0 : Code := c3.sr.sr.sr.sr.sr
noncomputable def c3_1 : Code := c3.sr.sr.sr.sr.sl.sr.sl.sl
def e3_0 (p5_s : Option Addr) (p6_left : Int) : Env := [(5, SV.v (Value.pointer p5_s)), (6, SV.v (Value.int IntKind.u64 p6_left))]
def e3_1 (p1_order_a : Option Addr) (p1_order_n : Nat) (p1_order_c : Nat) (p5_s : Option Addr) (p6_left : Int) (p7_i : Int) : Env := [(1, SV.v (Value.slice p1_order_a p1_order_n p1_order_c)), (5, SV.v (Value.pointer p5_s)), (6, SV.v (Value.int IntKind.u64 p6_left)), (7, SV.v (Value.int IntKind.i64 p7_i))]
def k3_0 (R : Ending → World → Prop) : Cont := retK Try.prog Try.f3.results.toList R
def k3_1 (R : Ending → World → Prop) : Cont := blockK 0 [5, 6] (seqK (fun E w => cutB (findL M3.cuts (headReg c3_0)) Try.prog M3 c3_0 E w (retK Try.prog Try.f3.results.toList R) fun E => den Try.prog M3 c3_0 E w (retK Try.prog Try.f3.results.toList R)) (retK Try.prog Try.f3.results.toList R))
theorem b3 : Try.f3.body = some c3 := by kernel_rfl
theorem n3 : Try.f3.ntmps = M3.N := by kernel_rfl
theorem u3 {p0_who : Int} {p1_order_a : Option Addr} {p1_order_n : Nat} {p1_order_c : Nat} {w : World} {R : Ending → World → Prop} (h : den Try.prog M3 c3 (argE 0 [(Value.int IntKind.u64 p0_who), (Value.slice p1_order_a p1_order_n p1_order_c)]) w (retK Try.prog Try.f3.results.toList R)) : Calls Try.prog 3 #[(Value.int IntKind.u64 p0_who), (Value.slice p1_order_a p1_order_n p1_order_c)] w R := calls_den okProg Try.func3 b3 n3 (Nat.le_of_ble_eq_true rfl) h
theorem t3 (p0_who : Int) (p1_order_a : Option Addr) (p1_order_n : Nat) (p1_order_c : Nat) (w : World) (R : Ending → World → Prop) : den Try.prog M3 c3 (argE 0 [(Value.int IntKind.u64 p0_who), (Value.slice p1_order_a p1_order_n p1_order_c)]) w (retK Try.prog Try.f3.results.toList R) =
(New w [Value.int IntKind.u64 0, Value.int IntKind.u64 0] 27 fun p w' =>
  Call Try.prog 6 [Value.pointer (some p), Value.int IntKind.u64 p0_who] w' fun e w' =>
    ∃ n,
      e = Ending.returned (Value.int IntKind.i64 n) ∧
        ((n != (0 : Int)) = true →
            ((p0_who == (0 : Int)) = true →
                Call Try.prog 7 [] w' fun e w' =>
                  ∃ b, e = Ending.returned (Value.bool b) ∧ R (Ending.returned (Value.bool b)) w') ∧
              ((p0_who == (0 : Int)) = false → R (Ending.returned (Value.bool false)) w')) ∧
          ((n != (0 : Int)) = false →
            Cut
              (WP Try.prog 64 (Code.loop c3_1)
                (e3_1 p1_order_a p1_order_n p1_order_c (some p) p0_who (0 : Int)) w' (k3_1 R)))) := by kernel_rfl
theorem t3_0 (p5_s : Option Addr) (p6_left : Int) (w : World) (R : Ending → World → Prop) : den Try.prog M3 c3_0 (e3_0 p5_s p6_left) w (k3_0 R) =
(Call Try.prog 12 [Value.pointer p5_s] w fun e w' =>
  ∃ n,
    e = Ending.returned (Value.int IntKind.u64 n) ∧
      ((n == p6_left) = true →
          Call Try.prog 7 [] w' fun e w' =>
            ∃ b, e = Ending.returned (Value.bool b) ∧ R (Ending.returned (Value.bool b)) w') ∧
        ((n == p6_left) = false → R (Ending.returned (Value.bool false)) w')) := by kernel_rfl
theorem t3_1 (p1_order_a : Option Addr) (p1_order_n : Nat) (p1_order_c : Nat) (p5_s : Option Addr) (p6_left : Int) (p7_i : Int) (w : World) (B3_1 : Env → World → Prop) (R : Ending → World → Prop) : den Try.prog M3 c3_1 (e3_1 p1_order_a p1_order_n p1_order_c p5_s p6_left p7_i) w (loopK B3_1 (k3_1 R)) =
((decide (p7_i < (↑p1_order_n : Int)) = true →
    (decide (p7_i < (200 : Int)) = true →
        ((0 : Int) ≤ p7_i ∧ p7_i < (↑p1_order_n : Int)) ∧
          ∃ a,
            p1_order_a = some a ∧
              ∃ n,
                World.cell? w (Addr.add a (Int.toNat p7_i * 1)) = some (Value.int IntKind.i64 n) ∧
                  Call Try.prog 8 [Value.int IntKind.u64 p6_left, Value.int IntKind.i64 n] w fun e w' =>
                    ∃ b,
                      e = Ending.returned (Value.bool b) ∧
                        ((0 : Int) ≤ p7_i ∧ p7_i < (↑p1_order_n : Int)) ∧
                          ∃ a,
                            p1_order_a = some a ∧
                              ∃ n,
                                World.cell? w' (Addr.add a (Int.toNat p7_i * 1)) =
                                    some (Value.int IntKind.i64 n) ∧
                                  Call Try.prog 9 [Value.pointer p5_s, Value.int IntKind.i64 n] w' fun e w' =>
                                    ∃ n,
                                      e = Ending.returned (Value.int IntKind.i64 n) ∧
                                        ((!(n == (0 : Int)) == b) = true → R (Ending.returned (Value.bool false)) w') ∧
                                          ((!(n == (0 : Int)) == b) = false →
                                            ((0 : Int) ≤ p7_i ∧ p7_i < (↑p1_order_n : Int)) ∧
                                              ∃ a,
                                                p1_order_a = some a ∧
                                                  ∃ n,
                                                    World.cell? w' (Addr.add a (Int.toNat p7_i * 1)) =
                                                        some (Value.int IntKind.i64 n) ∧
                                                      Call Try.prog 10
                                                        [Value.int IntKind.u64 p6_left, Value.int IntKind.i64 n] w'
                                                        fun e w' =>
                                                        ∃ n,
                                                          e = Ending.returned (Value.int IntKind.u64 n) ∧
                                                            Call Try.prog 11 [Value.pointer p5_s] w'
                                                              fun e w' =>
                                                              ∃ b,
                                                                e = Ending.returned (Value.bool b) ∧
                                                                  ((!b == (n == (0 : Int))) = true →
                                                                      R (Ending.returned (Value.bool false)) w') ∧
                                                                    ((!b == (n == (0 : Int))) = false →
                                                                      B3_1
                                                                        [(1,
                                                                            SV.v
                                                                              (Value.slice p1_order_a p1_order_n
                                                                                p1_order_c)),
                                                                          (5, SV.v (Value.pointer p5_s)),
                                                                          (6, SV.v (Value.int IntKind.u64 n)),
                                                                          (7,
                                                                            SV.v
                                                                              (Value.int IntKind.i64
                                                                                (IntKind.wrap IntKind.i64
                                                                                  (p7_i + (1 : Int)))))]
                                                                        w'))) ∧
      (decide (p7_i < (200 : Int)) = false → CutD Try.prog M3 c3_0 (e3_0 p5_s p6_left) w (k3_0 R))) ∧
  (decide (p7_i < (↑p1_order_n : Int)) = false → CutD Try.prog M3 c3_0 (e3_0 p5_s p6_left) w (k3_0 R))) := by kernel_rfl
/-! davit/davitlaw20.StopPlays -/
def M4 : Mt := { N := 99, keep := [(0, [0]), (1, [0, 3]), (2, [0, 3, 4]), (3, [0, 3, 4, 5]), (4, [0, 3, 4, 5, 18]), (5, [0, 3, 4, 5]), (6, [0, 3, 4, 5, 6]), (7, [0, 3, 4, 5, 6, 27]), (8, [0, 3, 4, 5, 6, 32]), (9, [2]), (10, [0, 3, 4, 5, 6, 27, 33]), (11, [0, 3, 4, 5, 6, 43]), (12, [2]), (13, [0, 3, 4, 5, 6, 44]), (14, [0, 3, 4, 5, 6, 54]), (15, [2]), (16, [0, 3, 4, 5, 97]), (17, [2]), (18, [2])], ords := [(11, [0, 1, 2, 4, 5, 6, 3, 7, 8]), (14, [0, 1, 2, 4, 5, 6, 3, 7, 8]), (16, [0, 2, 3, 4, 5, 1, 6, 7, 8, 9, 10, 12, 13, 14, 11, 15, 16, 17, 18, 19, 20, 21, 23, 24, 25, 22, 26, 27, 28, 29, 30, 32, 31, 33, 34, 35, 36, 37, 39, 38, 40, 41, 42])], bk := [(0, []), (1, [0, 3, 4, 5]), (2, [0, 3, 4, 5, 6])], cuts := [(16, [0, 3, 4, 5, 6]), (18, [])], lk := [(4, [0, 3, 4, 5])] }
noncomputable def c4 : Code := bodyOf Try.f4
noncomputable def c4_0 : Code := c4.sr.sr.sr.sr
noncomputable def c4_1 : Code := c4.sr.sr.sr.sl.sr.sl.sl
noncomputable def c4_2 : Code := c4.sr.sr.sr.sl.sr.sl.sl.sr.sr
noncomputable def c4_3 : Code := c4.sr.sr.sr.sl.sr.sl.sl.sr.sl.sl.sr.sr
def e4_0  : Env := []
def e4_1 (p0_acts_a : Option Addr) (p0_acts_n : Nat) (p0_acts_c : Nat) (p3_s : Option Addr) (p4_r : Option Addr) (p5_i : Int) : Env := [(0, SV.v (Value.slice p0_acts_a p0_acts_n p0_acts_c)), (3, SV.v (Value.pointer p3_s)), (4, SV.v (Value.pointer p4_r)), (5, SV.v (Value.int IntKind.i64 p5_i))]
def e4_3 (p0_acts_a : Option Addr) (p0_acts_n : Nat) (p0_acts_c : Nat) (p3_s : Option Addr) (p4_r : Option Addr) (p5_i : Int) (p6_a : Addr) : Env := [(0, SV.v (Value.slice p0_acts_a p0_acts_n p0_acts_c)), (3, SV.v (Value.pointer p3_s)), (4, SV.v (Value.pointer p4_r)), (5, SV.v (Value.int IntKind.i64 p5_i)), (6, SV.v (Value.pointer (some p6_a)))]
def k4_0 (R : Ending → World → Prop) : Cont := retK Try.prog Try.f4.results.toList R
def k4_1 (R : Ending → World → Prop) : Cont := blockK 0 [] (seqK (fun E w => cutB (findL M4.cuts (headReg c4_0)) Try.prog M4 c4_0 E w (retK Try.prog Try.f4.results.toList R) fun E => den Try.prog M4 c4_0 E w (retK Try.prog Try.f4.results.toList R)) (retK Try.prog Try.f4.results.toList R))
def k4_3 (B4_1 : Env → World → Prop) (R : Ending → World → Prop) : Cont := blockK 1 [0, 3, 4, 5] (seqK (fun E w => cutB (findL M4.cuts (headReg c4_2)) Try.prog M4 c4_2 E w (loopK B4_1 (blockK 0 [] (seqK (fun E w => cutB (findL M4.cuts (headReg c4_0)) Try.prog M4 c4_0 E w (retK Try.prog Try.f4.results.toList R) fun E => den Try.prog M4 c4_0 E w (retK Try.prog Try.f4.results.toList R)) (retK Try.prog Try.f4.results.toList R)))) fun E => den Try.prog M4 c4_2 E w (loopK B4_1 (blockK 0 [] (seqK (fun E w => cutB (findL M4.cuts (headReg c4_0)) Try.prog M4 c4_0 E w (retK Try.prog Try.f4.results.toList R) fun E => den Try.prog M4 c4_0 E w (retK Try.prog Try.f4.results.toList R)) (retK Try.prog Try.f4.results.toList R))))) (loopK B4_1 (blockK 0 [] (seqK (fun E w => cutB (findL M4.cuts (headReg c4_0)) Try.prog M4 c4_0 E w (retK Try.prog Try.f4.results.toList R) fun E => den Try.prog M4 c4_0 E w (retK Try.prog Try.f4.results.toList R)) (retK Try.prog Try.f4.results.toList R)))))
theorem b4 : Try.f4.body = some c4 := by kernel_rfl
theorem n4 : Try.f4.ntmps = M4.N := by kernel_rfl
theorem u4 {p0_acts_a : Option Addr} {p0_acts_n : Nat} {p0_acts_c : Nat} {w : World} {R : Ending → World → Prop} (h : den Try.prog M4 c4 (argE 0 [(Value.slice p0_acts_a p0_acts_n p0_acts_c)]) w (retK Try.prog Try.f4.results.toList R)) : Calls Try.prog 4 #[(Value.slice p0_acts_a p0_acts_n p0_acts_c)] w R := calls_den okProg Try.func4 b4 n4 (Nat.le_of_ble_eq_true rfl) h
theorem t4 (p0_acts_a : Option Addr) (p0_acts_n : Nat) (p0_acts_c : Nat) (w : World) (R : Ending → World → Prop) : den Try.prog M4 c4 (argE 0 [(Value.slice p0_acts_a p0_acts_n p0_acts_c)]) w (retK Try.prog Try.f4.results.toList R) =
(New w [Value.int IntKind.u64 0, Value.int IntKind.u64 0] 27 fun p w' =>
  New w' [Value.bool false, Value.int IntKind.u64 0, Value.int IntKind.u64 0] 39 fun p_1 w' =>
    Cut
      (WP Try.prog 99 (Code.loop c4_1) (e4_1 p0_acts_a p0_acts_n p0_acts_c (some p) (some p_1) (0 : Int)) w'
        (k4_1 R))) := by kernel_rfl
theorem t4_0  (w : World) (R : Ending → World → Prop) : den Try.prog M4 c4_0 (e4_0 ) w (k4_0 R) =
(Call Try.prog 7 [] w fun e w' =>
  ∃ b, e = Ending.returned (Value.bool b) ∧ R (Ending.returned (Value.bool b)) w') := by kernel_rfl
theorem t4_1 (p0_acts_a : Option Addr) (p0_acts_n : Nat) (p0_acts_c : Nat) (p3_s : Option Addr) (p4_r : Option Addr) (p5_i : Int) (w : World) (B4_1 : Env → World → Prop) (R : Ending → World → Prop) : den Try.prog M4 c4_1 (e4_1 p0_acts_a p0_acts_n p0_acts_c p3_s p4_r p5_i) w (loopK B4_1 (k4_1 R)) =
((decide (p5_i < (↑p0_acts_n : Int)) = true →
    (decide (p5_i < (150 : Int)) = true →
        ((0 : Int) ≤ p5_i ∧ p5_i < (↑p0_acts_n : Int)) ∧
          ∃ a,
            p0_acts_a = some a ∧
              ∃ n,
                World.cell? w (Addr.add (Addr.add a (Int.toNat p5_i * 3)) 0) =
                    some (Value.int IntKind.i64 n) ∧
                  ∃ n_1,
                    World.cell? w (Addr.add (Addr.add a (Int.toNat p5_i * 3)) 1) =
                        some (Value.int IntKind.i64 n_1) ∧
                      ∃ n_2,
                        World.cell? w (Addr.add (Addr.add a (Int.toNat p5_i * 3)) 2) =
                            some (Value.int IntKind.u64 n_2) ∧
                          New w
                            [Value.int IntKind.i64 0, Value.int IntKind.i64 0,
                              Value.int IntKind.u64 0]
                            41 fun p w' =>
                            Wr w' p [Value.int IntKind.i64 n, Value.int IntKind.i64 n_1, Value.int IntKind.u64 n_2]
                              fun w' =>
                              ∃ n,
                                World.cell? w' (Addr.add p 0) = some (Value.int IntKind.i64 n) ∧
                                  (3 : Int) ≠ (0 : Int) ∧
                                    ((Int.tmod n (3 : Int) == (0 : Int)) = true →
                                        ∀ (w'_1 : World),
                                          World.heap w'_1 = World.heap w' →
                                            World.os w'_1 = World.os w' →
                                              World.tape w'_1 = World.tape w' →
                                                World.output w'_1 = World.output w' →
                                                  ∃ n,
                                                    World.cell? w'_1 (Addr.add p 2) =
                                                        some (Value.int IntKind.u64 n) ∧
                                                      ∃ n_3,
                                                        World.cell? w'_1 (Addr.add p 2) =
                                                            some (Value.int IntKind.u64 n_3) ∧
                                                          Call Try.prog 6
                                                            [Value.pointer p3_s, Value.int IntKind.u64 n] w'_1
                                                            fun e w' =>
                                                            ∃ n,
                                                              e = Ending.returned (Value.int IntKind.i64 n) ∧
                                                                World.cell? w' (Addr.add p 2) =
                                                                    some (Value.int IntKind.u64 n_3) ∧
                                                                  Call Try.prog 13
                                                                    [Value.pointer p4_r, Value.int IntKind.u64 n_3] w'
                                                                    fun e w' =>
                                                                    ∃ n_4,
                                                                      e = Ending.returned (Value.int IntKind.i64 n_4) ∧
                                                                        ((n != n_4) = true →
                                                                            R (Ending.returned (Value.bool false))
                                                                              w') ∧
                                                                          ((n != n_4) = false →
                                                                            CutD Try.prog M4 c4_3
                                                                              (e4_3 p0_acts_a p0_acts_n p0_acts_c
                                                                                p3_s p4_r p5_i p)
                                                                              w' (k4_3 B4_1 R))) ∧
                                      ((Int.tmod n (3 : Int) == (0 : Int)) = false →
                                        ((Int.tmod n (3 : Int) == (1 : Int)) = true →
                                            ∀ (w'_1 : World),
                                              World.heap w'_1 = World.heap w' →
                                                World.os w'_1 = World.os w' →
                                                  World.tape w'_1 = World.tape w' →
                                                    World.output w'_1 = World.output w' →
                                                      ∃ n,
                                                        World.cell? w'_1 (Addr.add p 1) =
                                                            some (Value.int IntKind.i64 n) ∧
                                                          ∃ n_3,
                                                            World.cell? w'_1 (Addr.add p 1) =
                                                                some (Value.int IntKind.i64 n_3) ∧
                                                              Call Try.prog 9
                                                                [Value.pointer p3_s, Value.int IntKind.i64 n] w'_1
                                                                fun e w' =>
                                                                ∃ n,
                                                                  e = Ending.returned (Value.int IntKind.i64 n) ∧
                                                                    World.cell? w' (Addr.add p 1) =
                                                                        some (Value.int IntKind.i64 n_3) ∧
                                                                      Call Try.prog 14
                                                                        [Value.pointer p4_r, Value.int IntKind.i64 n_3]
                                                                        w' fun e w' =>
                                                                        ∃ n_4,
                                                                          e =
                                                                              Ending.returned
                                                                                (Value.int IntKind.i64 n_4) ∧
                                                                            ((n != n_4) = true →
                                                                                R (Ending.returned (Value.bool false))
                                                                                  w') ∧
                                                                              ((n != n_4) = false →
                                                                                CutD Try.prog M4 c4_3
                                                                                  (e4_3 p0_acts_a p0_acts_n p0_acts_c
                                                                                    p3_s p4_r p5_i p)
                                                                                  w' (k4_3 B4_1 R))) ∧
                                          ((Int.tmod n (3 : Int) == (1 : Int)) = false →
                                            Call Try.prog 15 [Value.pointer p3_s] w' fun e w' =>
                                              ∃ n,
                                                e = Ending.returned (Value.int IntKind.i64 n) ∧
                                                  Call Try.prog 16 [Value.pointer p4_r] w' fun e w' =>
                                                    ∃ n_3,
                                                      e = Ending.returned (Value.int IntKind.i64 n_3) ∧
                                                        ((n != n_3) = true →
                                                            R (Ending.returned (Value.bool false)) w') ∧
                                                          ((n != n_3) = false →
                                                            CutD Try.prog M4 c4_3
                                                              (e4_3 p0_acts_a p0_acts_n p0_acts_c p3_s p4_r p5_i
                                                                p)
                                                              w' (k4_3 B4_1 R))))) ∧
      (decide (p5_i < (150 : Int)) = false → CutD Try.prog M4 c4_0 e4_0 w (k4_0 R))) ∧
  (decide (p5_i < (↑p0_acts_n : Int)) = false → CutD Try.prog M4 c4_0 e4_0 w (k4_0 R))) := by kernel_rfl
theorem t4_3 (p0_acts_a : Option Addr) (p0_acts_n : Nat) (p0_acts_c : Nat) (p3_s : Option Addr) (p4_r : Option Addr) (p5_i : Int) (p6_a : Addr) (w : World) (B4_1 : Env → World → Prop) (R : Ending → World → Prop) : den Try.prog M4 c4_3 (e4_3 p0_acts_a p0_acts_n p0_acts_c p3_s p4_r p5_i p6_a) w (k4_3 B4_1 R) =
(∀ (w' : World),
  World.heap w' = World.heap w →
    World.os w' = World.os w →
      World.tape w' = World.tape w →
        World.output w' = World.output w →
          ∃ a,
            p4_r = some a ∧
              ∃ b,
                World.cell? w' (Addr.add a 0) = some (Value.bool b) ∧
                  Call Try.prog 17 [Value.pointer p3_s] w' fun e w' =>
                    ∃ b_1,
                      e = Ending.returned (Value.bool b_1) ∧
                        World.cell? w' (Addr.add a 0) = some (Value.bool b) ∧
                          ((!b_1 == b) = false →
                              ∃ n,
                                World.cell? w' (Addr.add p6_a 1) = some (Value.int IntKind.i64 n) ∧
                                  ∃ n_1,
                                    World.cell? w' (Addr.add p6_a 1) = some (Value.int IntKind.i64 n_1) ∧
                                      Call Try.prog 18 [Value.pointer p3_s, Value.int IntKind.i64 n] w'
                                        fun e w' =>
                                        ∃ b,
                                          e = Ending.returned (Value.bool b) ∧
                                            World.cell? w' (Addr.add p6_a 1) =
                                                some (Value.int IntKind.i64 n_1) ∧
                                              Call Try.prog 19 [Value.pointer p4_r, Value.int IntKind.i64 n_1]
                                                w' fun e w' =>
                                                ∃ b_2,
                                                  e = Ending.returned (Value.bool b_2) ∧
                                                    ((!b == b_2) = false →
                                                        ∃ n,
                                                          World.cell? w' (Addr.add p6_a 1) =
                                                              some (Value.int IntKind.i64 n) ∧
                                                            ∃ n_2,
                                                              World.cell? w' (Addr.add p6_a 1) =
                                                                  some (Value.int IntKind.i64 n_2) ∧
                                                                Call Try.prog 20
                                                                  [Value.pointer p3_s, Value.int IntKind.i64 n] w'
                                                                  fun e w' =>
                                                                  ∃ b,
                                                                    e = Ending.returned (Value.bool b) ∧
                                                                      World.cell? w' (Addr.add p6_a 1) =
                                                                          some (Value.int IntKind.i64 n_2) ∧
                                                                        Call Try.prog 21
                                                                          [Value.pointer p4_r,
                                                                            Value.int IntKind.i64 n_2]
                                                                          w' fun e w' =>
                                                                          ∃ b_3,
                                                                            e = Ending.returned (Value.bool b_3) ∧
                                                                              ((!b == b_3) = false →
                                                                                  Call Try.prog 11
                                                                                    [Value.pointer p3_s] w' fun e w' =>
                                                                                    ∃ b,
                                                                                      e =
                                                                                          Ending.returned
                                                                                            (Value.bool b) ∧
                                                                                        Call Try.prog 22
                                                                                          [Value.pointer p4_r] w'
                                                                                          fun e w' =>
                                                                                          ∃ b_4,
                                                                                            e =
                                                                                                Ending.returned
                                                                                                  (Value.bool b_4) ∧
                                                                                              ((!b == b_4) = false →
                                                                                                  Call Try.prog
                                                                                                    12
                                                                                                    [Value.pointer
                                                                                                        p3_s]
                                                                                                    w' fun e w' =>
                                                                                                    ∃ n,
                                                                                                      e =
                                                                                                          Ending.returned
                                                                                                            (Value.int
                                                                                                              IntKind.u64
                                                                                                              n) ∧
                                                                                                        Call Try.prog
                                                                                                          23
                                                                                                          [Value.pointer
                                                                                                              p4_r]
                                                                                                          w' fun e w' =>
                                                                                                          ∃ n_3,
                                                                                                            e =
                                                                                                                Ending.returned
                                                                                                                  (Value.int
                                                                                                                    IntKind.u64
                                                                                                                    n_3) ∧
                                                                                                              ((n !=
                                                                                                                      n_3) =
                                                                                                                    true →
                                                                                                                  R
                                                                                                                    (Ending.returned
                                                                                                                      (Value.bool
                                                                                                                        false))
                                                                                                                    w') ∧
                                                                                                                ((n !=
                                                                                                                      n_3) =
                                                                                                                    false →
                                                                                                                  B4_1
                                                                                                                    [((0 :
                                                                                                                          Nat),
                                                                                                                        SV.v
                                                                                                                          (Value.slice
                                                                                                                            p0_acts_a
                                                                                                                            p0_acts_n
                                                                                                                            p0_acts_c)),
                                                                                                                      ((3 :
                                                                                                                          Nat),
                                                                                                                        SV.v
                                                                                                                          (Value.pointer
                                                                                                                            p3_s)),
                                                                                                                      ((4 :
                                                                                                                          Nat),
                                                                                                                        SV.v
                                                                                                                          (Value.pointer
                                                                                                                            p4_r)),
                                                                                                                      ((5 :
                                                                                                                          Nat),
                                                                                                                        SV.v
                                                                                                                          (Value.int
                                                                                                                            IntKind.i64
                                                                                                                            (IntKind.wrap
                                                                                                                              IntKind.i64
                                                                                                                              (p5_i +
                                                                                                                                (1 :
                                                                                                                                  Int)))))]
                                                                                                                    w')) ∧
                                                                                                ((!b == b_4) = true →
                                                                                                  R
                                                                                                    (Ending.returned
                                                                                                      (Value.bool
                                                                                                        false))
                                                                                                    w')) ∧
                                                                                ((!b == b_3) = true →
                                                                                  R
                                                                                    (Ending.returned (Value.bool false))
                                                                                    w')) ∧
                                                      ((!b == b_2) = true →
                                                        R (Ending.returned (Value.bool false)) w')) ∧
                            ((!b_1 == b) = true → R (Ending.returned (Value.bool false)) w')) := by kernel_rfl
/-! davit/davitlaw20.StopNil -/
def M5 : Mt := { N := 51, keep := [(0, [0, 1]), (1, [0, 1, 5]), (2, [4])], ords := [], bk := [], cuts := [], lk := [] }
noncomputable def c5 : Code := bodyOf Try.f5
theorem b5 : Try.f5.body = some c5 := by kernel_rfl
theorem n5 : Try.f5.ntmps = M5.N := by kernel_rfl
theorem u5 {p0_cpu : Int} {p1_who : Int} {w : World} {R : Ending → World → Prop} (h : den Try.prog M5 c5 (argE 0 [(Value.int IntKind.i64 p0_cpu), (Value.int IntKind.u64 p1_who)]) w (retK Try.prog Try.f5.results.toList R)) : Calls Try.prog 5 #[(Value.int IntKind.i64 p0_cpu), (Value.int IntKind.u64 p1_who)] w R := calls_den okProg Try.func5 b5 n5 (Nat.le_of_ble_eq_true rfl) h
theorem t5 (p0_cpu : Int) (p1_who : Int) (w : World) (R : Ending → World → Prop) : den Try.prog M5 c5 (argE 0 [(Value.int IntKind.i64 p0_cpu), (Value.int IntKind.u64 p1_who)]) w (retK Try.prog Try.f5.results.toList R) =
(Call Try.prog 6 [Value.pointer none, Value.int IntKind.u64 p1_who] w fun e w' =>
  ∃ n,
    e = Ending.returned (Value.int IntKind.i64 n) ∧
      ((n == (1 : Int)) = true →
          Call Try.prog 9 [Value.pointer none, Value.int IntKind.i64 p0_cpu] w' fun e w' =>
            ∃ n,
              e = Ending.returned (Value.int IntKind.i64 n) ∧
                ((n == (1 : Int)) = true →
                    Call Try.prog 18 [Value.pointer none, Value.int IntKind.i64 p0_cpu] w' fun e w' =>
                      ∃ b,
                        e = Ending.returned (Value.bool b) ∧
                          ((!b) = true →
                              Call Try.prog 20 [Value.pointer none, Value.int IntKind.i64 p0_cpu] w'
                                fun e w' =>
                                ∃ b,
                                  e = Ending.returned (Value.bool b) ∧
                                    ((!b) = true →
                                        Call Try.prog 11 [Value.pointer none] w' fun e w' =>
                                          ∃ b,
                                            e = Ending.returned (Value.bool b) ∧
                                              ((!b) = true →
                                                  Call Try.prog 15 [Value.pointer none] w' fun e w' =>
                                                    ∃ n,
                                                      e = Ending.returned (Value.int IntKind.i64 n) ∧
                                                        ((n == (1 : Int)) = true →
                                                            Call Try.prog 17 [Value.pointer none] w' fun e w' =>
                                                              ∃ b,
                                                                e = Ending.returned (Value.bool b) ∧
                                                                  ((!b) = true →
                                                                      Call Try.prog 12 [Value.pointer none] w'
                                                                        fun e w' =>
                                                                        ∃ n,
                                                                          e =
                                                                              Ending.returned
                                                                                (Value.int IntKind.u64 n) ∧
                                                                            ((n == (0 : Int)) = true →
                                                                                Call Try.prog 7 [] w'
                                                                                  fun e w' =>
                                                                                  ∃ b,
                                                                                    e = Ending.returned (Value.bool b) ∧
                                                                                      R
                                                                                        (Ending.returned (Value.bool b))
                                                                                        w') ∧
                                                                              ((n == (0 : Int)) = false →
                                                                                R (Ending.returned (Value.bool false))
                                                                                  w')) ∧
                                                                    ((!b) = false →
                                                                      R (Ending.returned (Value.bool false)) w')) ∧
                                                          ((n == (1 : Int)) = false →
                                                            R (Ending.returned (Value.bool false)) w')) ∧
                                                ((!b) = false → R (Ending.returned (Value.bool false)) w')) ∧
                                      ((!b) = false → R (Ending.returned (Value.bool false)) w')) ∧
                            ((!b) = false → R (Ending.returned (Value.bool false)) w')) ∧
                  ((n == (1 : Int)) = false → R (Ending.returned (Value.bool false)) w')) ∧
        ((n == (1 : Int)) = false → R (Ending.returned (Value.bool false)) w')) := by kernel_rfl
/-! (*davit/stop.Stop).Begin -/
def M6 : Mt := { N := 21, keep := [(0, [0, 1]), (1, [0, 1, 5]), (2, [4]), (3, [0, 1, 8]), (4, [4]), (5, [0, 1, 11]), (6, [4]), (7, []), (8, [4])], ords := [], bk := [(0, [0, 1])], cuts := [], lk := [] }
noncomputable def c6 : Code := bodyOf Try.f6
theorem b6 : Try.f6.body = some c6 := by kernel_rfl
theorem n6 : Try.f6.ntmps = M6.N := by kernel_rfl
theorem u6 {p0_s : Option Addr} {p1_who : Int} {w : World} {R : Ending → World → Prop} (h : den Try.prog M6 c6 (argE 0 [(Value.pointer p0_s), (Value.int IntKind.u64 p1_who)]) w (retK Try.prog Try.f6.results.toList R)) : Calls Try.prog 6 #[(Value.pointer p0_s), (Value.int IntKind.u64 p1_who)] w R := calls_den okProg Try.func6 b6 n6 (Nat.le_of_ble_eq_true rfl) h
theorem t6 (p0_s : Option Addr) (p1_who : Int) (w : World) (R : Ending → World → Prop) : den Try.prog M6 c6 (argE 0 [(Value.pointer p0_s), (Value.int IntKind.u64 p1_who)]) w (retK Try.prog Try.f6.results.toList R) =
((Option.isNone p0_s = true → R (Ending.returned (Value.int IntKind.i64 1)) w) ∧
  (Option.isNone p0_s = false →
    Call Try.prog 17 [Value.pointer p0_s] w fun e w' =>
      ∃ b,
        e = Ending.returned (Value.bool b) ∧
          (b = true → R (Ending.returned (Value.int IntKind.i64 7)) w') ∧
            (b = false →
              ((p1_who == (0 : Int)) = true → R (Ending.returned (Value.int IntKind.i64 2)) w') ∧
                ((p1_who == (0 : Int)) = false →
                  ∃ a,
                    p0_s = some a ∧
                      Wr w' (Addr.add a 0) [Value.int IntKind.u64 p1_who] fun w' =>
                        ∃ a,
                          p0_s = some a ∧
                            Wr w' (Addr.add a 1) [Value.int IntKind.u64 0] fun w' =>
                              R (Ending.returned (Value.int IntKind.i64 0)) w')))) := by kernel_rfl
/-! davit/davitlaw20.known -/
def M7 : Mt := { N := 47, keep := [(0, []), (1, [1]), (2, [1, 2]), (3, [1, 2, 3]), (4, [1, 2, 3, 4]), (5, [1, 2, 3, 4, 5]), (6, [0])], ords := [], bk := [], cuts := [], lk := [] }
noncomputable def c7 : Code := bodyOf Try.f7
theorem b7 : Try.f7.body = some c7 := by kernel_rfl
theorem n7 : Try.f7.ntmps = M7.N := by kernel_rfl
theorem u7  {w : World} {R : Ending → World → Prop} (h : den Try.prog M7 c7 (argE 0 []) w (retK Try.prog Try.f7.results.toList R)) : Calls Try.prog 7 #[] w R := calls_den okProg Try.func7 b7 n7 (Nat.le_of_ble_eq_true rfl) h
theorem t7  (w : World) (R : Ending → World → Prop) : den Try.prog M7 c7 (argE 0 []) w (retK Try.prog Try.f7.results.toList R) =
(New w [Value.int IntKind.u64 0, Value.int IntKind.u64 0] 27 fun p w' =>
  Call Try.prog 6 [Value.pointer (some p), Value.int IntKind.u64 5] w' fun e w' =>
    ∃ n,
      e = Ending.returned (Value.int IntKind.i64 n) ∧
        Call Try.prog 9 [Value.pointer (some p), Value.int IntKind.i64 2] w' fun e w' =>
          ∃ n_1,
            e = Ending.returned (Value.int IntKind.i64 n_1) ∧
              Call Try.prog 11 [Value.pointer (some p)] w' fun e w' =>
                ∃ b,
                  e = Ending.returned (Value.bool b) ∧
                    Call Try.prog 9 [Value.pointer (some p), Value.int IntKind.i64 0] w' fun e w' =>
                      ∃ n_2,
                        e = Ending.returned (Value.int IntKind.i64 n_2) ∧
                          ((n == (0 : Int)) = true →
                              ((n_1 == (0 : Int)) = true →
                                  ((!b) = true →
                                      ((n_2 == (0 : Int)) = true →
                                          Call Try.prog 11 [Value.pointer (some p)] w' fun e w' =>
                                            ∃ b,
                                              e = Ending.returned (Value.bool b) ∧
                                                (b = true →
                                                    Call Try.prog 20
                                                      [Value.pointer (some p), Value.int IntKind.i64 2] w'
                                                      fun e w' =>
                                                      ∃ b,
                                                        e = Ending.returned (Value.bool b) ∧
                                                          (b = true →
                                                              Call Try.prog 17 [Value.pointer (some p)] w'
                                                                fun e w' =>
                                                                ∃ b,
                                                                  e = Ending.returned (Value.bool b) ∧
                                                                    (b = true →
                                                                        Call Try.prog 9
                                                                          [Value.pointer (some p),
                                                                            Value.int IntKind.i64 0]
                                                                          w' fun e w' =>
                                                                          ∃ n,
                                                                            e =
                                                                                Ending.returned
                                                                                  (Value.int IntKind.i64 n) ∧
                                                                              R
                                                                                (Ending.returned
                                                                                  (Value.bool (n == (6 : Int))))
                                                                                w') ∧
                                                                      (b = false →
                                                                        R (Ending.returned (Value.bool false)) w')) ∧
                                                            (b = false → R (Ending.returned (Value.bool false)) w')) ∧
                                                  (b = false → R (Ending.returned (Value.bool false)) w')) ∧
                                        ((n_2 == (0 : Int)) = false → R (Ending.returned (Value.bool false)) w')) ∧
                                    ((!b) = false → R (Ending.returned (Value.bool false)) w')) ∧
                                ((n_1 == (0 : Int)) = false → R (Ending.returned (Value.bool false)) w')) ∧
                            ((n == (0 : Int)) = false → R (Ending.returned (Value.bool false)) w')) := by kernel_rfl
/-! davit/davitref01.Has -/
def M8 : Mt := { N := 17, keep := [(0, [0, 1]), (1, [0, 1, 10]), (2, [4]), (3, [4])], ords := [], bk := [], cuts := [], lk := [] }
noncomputable def c8 : Code := bodyOf Try.f8
theorem b8 : Try.f8.body = some c8 := by kernel_rfl
theorem n8 : Try.f8.ntmps = M8.N := by kernel_rfl
theorem u8 {p0_m : Int} {p1_cpu : Int} {w : World} {R : Ending → World → Prop} (h : den Try.prog M8 c8 (argE 0 [(Value.int IntKind.u64 p0_m), (Value.int IntKind.i64 p1_cpu)]) w (retK Try.prog Try.f8.results.toList R)) : Calls Try.prog 8 #[(Value.int IntKind.u64 p0_m), (Value.int IntKind.i64 p1_cpu)] w R := calls_den okProg Try.func8 b8 n8 (Nat.le_of_ble_eq_true rfl) h
theorem t8 (p0_m : Int) (p1_cpu : Int) (w : World) (R : Ending → World → Prop) : den Try.prog M8 c8 (argE 0 [(Value.int IntKind.u64 p0_m), (Value.int IntKind.i64 p1_cpu)]) w (retK Try.prog Try.f8.results.toList R) =
((decide (p1_cpu < (0 : Int)) = false →
    (decide (p1_cpu > (63 : Int)) = true → R (Ending.returned (Value.bool false)) w) ∧
      (decide (p1_cpu > (63 : Int)) = false →
        (0 : Int) ≤ IntKind.wrap IntKind.u64 p1_cpu ∧
          (2 : Int) ≠ (0 : Int) ∧
            R
              (Ending.returned
                (Value.bool
                  (Int.tmod (shrOp IntKind.u64 p0_m (IntKind.wrap IntKind.u64 p1_cpu)) (2 : Int) == (1 : Int))))
              w)) ∧
  (decide (p1_cpu < (0 : Int)) = true → R (Ending.returned (Value.bool false)) w)) := by kernel_rfl
/-! (*davit/stop.Stop).Ack -/
def M9 : Mt := { N := 23, keep := [(0, [0, 1]), (1, [0, 1, 5]), (2, [4]), (3, [0, 1, 8]), (4, [4]), (5, []), (6, [4])], ords := [], bk := [(0, [0, 1])], cuts := [], lk := [] }
noncomputable def c9 : Code := bodyOf Try.f9
theorem b9 : Try.f9.body = some c9 := by kernel_rfl
theorem n9 : Try.f9.ntmps = M9.N := by kernel_rfl
theorem u9 {p0_s : Option Addr} {p1_cpu : Int} {w : World} {R : Ending → World → Prop} (h : den Try.prog M9 c9 (argE 0 [(Value.pointer p0_s), (Value.int IntKind.i64 p1_cpu)]) w (retK Try.prog Try.f9.results.toList R)) : Calls Try.prog 9 #[(Value.pointer p0_s), (Value.int IntKind.i64 p1_cpu)] w R := calls_den okProg Try.func9 b9 n9 (Nat.le_of_ble_eq_true rfl) h
theorem t9 (p0_s : Option Addr) (p1_cpu : Int) (w : World) (R : Ending → World → Prop) : den Try.prog M9 c9 (argE 0 [(Value.pointer p0_s), (Value.int IntKind.i64 p1_cpu)]) w (retK Try.prog Try.f9.results.toList R) =
((Option.isNone p0_s = true → R (Ending.returned (Value.int IntKind.i64 1)) w) ∧
  (Option.isNone p0_s = false →
    Call Try.prog 18 [Value.pointer p0_s, Value.int IntKind.i64 p1_cpu] w fun e w' =>
      ∃ b,
        e = Ending.returned (Value.bool b) ∧
          ((!b) = true → R (Ending.returned (Value.int IntKind.i64 6)) w') ∧
            ((!b) = false →
              ∃ a,
                p0_s = some a ∧
                  ∃ n,
                    World.cell? w' (Addr.add a 1) = some (Value.int IntKind.u64 n) ∧
                      New w' [Value.int IntKind.i64 p1_cpu] 3 fun p w' =>
                        Call Try.prog 24 [Value.int IntKind.u64 n, Value.slice (some p) 1 1] w'
                          fun e w' =>
                          ∃ n,
                            e = Ending.returned (Value.int IntKind.u64 n) ∧
                              ∃ a,
                                p0_s = some a ∧
                                  Wr w' (Addr.add a 1) [Value.int IntKind.u64 n] fun w' =>
                                    R (Ending.returned (Value.int IntKind.i64 0)) w'))) := by kernel_rfl
/-! davit/davitref01.Less -/
def M10 : Mt := { N := 15, keep := [(0, [0, 1]), (1, [0, 1, 8]), (2, [4]), (3, [4])], ords := [], bk := [], cuts := [], lk := [] }
noncomputable def c10 : Code := bodyOf Try.f10
theorem b10 : Try.f10.body = some c10 := by kernel_rfl
theorem n10 : Try.f10.ntmps = M10.N := by kernel_rfl
theorem u10 {p0_m : Int} {p1_cpu : Int} {w : World} {R : Ending → World → Prop} (h : den Try.prog M10 c10 (argE 0 [(Value.int IntKind.u64 p0_m), (Value.int IntKind.i64 p1_cpu)]) w (retK Try.prog Try.f10.results.toList R)) : Calls Try.prog 10 #[(Value.int IntKind.u64 p0_m), (Value.int IntKind.i64 p1_cpu)] w R := calls_den okProg Try.func10 b10 n10 (Nat.le_of_ble_eq_true rfl) h
theorem t10 (p0_m : Int) (p1_cpu : Int) (w : World) (R : Ending → World → Prop) : den Try.prog M10 c10 (argE 0 [(Value.int IntKind.u64 p0_m), (Value.int IntKind.i64 p1_cpu)]) w (retK Try.prog Try.f10.results.toList R) =
(Call Try.prog 8 [Value.int IntKind.u64 p0_m, Value.int IntKind.i64 p1_cpu] w fun e w' =>
  ∃ b,
    e = Ending.returned (Value.bool b) ∧
      ((!b) = true → R (Ending.returned (Value.int IntKind.u64 p0_m)) w') ∧
        ((!b) = false →
          (0 : Int) ≤ IntKind.wrap IntKind.u64 p1_cpu ∧
            R
              (Ending.returned
                (Value.int IntKind.u64
                  (IntKind.wrap IntKind.u64 (p0_m - shlOp IntKind.u64 (1 : Int) (IntKind.wrap IntKind.u64 p1_cpu)))))
              w')) := by kernel_rfl
/-! (*davit/stop.Stop).Ready -/
def M11 : Mt := { N := 10, keep := [(0, [0]), (1, [2])], ords := [], bk := [], cuts := [], lk := [] }
noncomputable def c11 : Code := bodyOf Try.f11
theorem b11 : Try.f11.body = some c11 := by kernel_rfl
theorem n11 : Try.f11.ntmps = M11.N := by kernel_rfl
theorem u11 {p0_s : Option Addr} {w : World} {R : Ending → World → Prop} (h : den Try.prog M11 c11 (argE 0 [(Value.pointer p0_s)]) w (retK Try.prog Try.f11.results.toList R)) : Calls Try.prog 11 #[(Value.pointer p0_s)] w R := calls_den okProg Try.func11 b11 n11 (Nat.le_of_ble_eq_true rfl) h
theorem t11 (p0_s : Option Addr) (w : World) (R : Ending → World → Prop) : den Try.prog M11 c11 (argE 0 [(Value.pointer p0_s)]) w (retK Try.prog Try.f11.results.toList R) =
(Call Try.prog 17 [Value.pointer p0_s] w fun e w' =>
  ∃ b,
    e = Ending.returned (Value.bool b) ∧
      (b = true →
          Call Try.prog 12 [Value.pointer p0_s] w' fun e w' =>
            ∃ n,
              e = Ending.returned (Value.int IntKind.u64 n) ∧ R (Ending.returned (Value.bool (n == (0 : Int)))) w') ∧
        (b = false → R (Ending.returned (Value.bool false)) w')) := by kernel_rfl
/-! (*davit/stop.Stop).Left -/
def M12 : Mt := { N := 14, keep := [(0, [0]), (1, [0, 4]), (2, [2]), (3, [2])], ords := [(3, [0, 1, 2, 3, 4, 5, 6, 7, 8, 9])], bk := [], cuts := [], lk := [] }
noncomputable def c12 : Code := bodyOf Try.f12
theorem b12 : Try.f12.body = some c12 := by kernel_rfl
theorem n12 : Try.f12.ntmps = M12.N := by kernel_rfl
theorem u12 {p0_s : Option Addr} {w : World} {R : Ending → World → Prop} (h : den Try.prog M12 c12 (argE 0 [(Value.pointer p0_s)]) w (retK Try.prog Try.f12.results.toList R)) : Calls Try.prog 12 #[(Value.pointer p0_s)] w R := calls_den okProg Try.func12 b12 n12 (Nat.le_of_ble_eq_true rfl) h
theorem t12 (p0_s : Option Addr) (w : World) (R : Ending → World → Prop) : den Try.prog M12 c12 (argE 0 [(Value.pointer p0_s)]) w (retK Try.prog Try.f12.results.toList R) =
((Option.isNone p0_s = true → R (Ending.returned (Value.int IntKind.u64 0)) w) ∧
  (Option.isNone p0_s = false →
    ∀ (w' : World),
      World.heap w' = World.heap w →
        World.os w' = World.os w →
          World.tape w' = World.tape w →
            World.output w' = World.output w →
              ∃ a,
                p0_s = some a ∧
                  ∃ n,
                    World.cell? w' (Addr.add a 0) = some (Value.int IntKind.u64 n) ∧
                      ∃ a,
                        p0_s = some a ∧
                          ∃ n_1,
                            World.cell? w' (Addr.add a 1) = some (Value.int IntKind.u64 n_1) ∧
                              Call Try.prog 25 [Value.int IntKind.u64 n, Value.int IntKind.u64 n_1] w'
                                fun e w' =>
                                ∃ n,
                                  e = Ending.returned (Value.int IntKind.u64 n) ∧
                                    R (Ending.returned (Value.int IntKind.u64 n)) w')) := by kernel_rfl
/-! (*davit/davitref20.Stop).Begin -/
def M13 : Mt := { N := 21, keep := [(0, [0, 1]), (1, [0, 1, 8]), (2, [4]), (3, [0, 1, 10]), (4, [4]), (5, [0, 1]), (6, [0]), (7, []), (8, [4])], ords := [], bk := [], cuts := [], lk := [] }
noncomputable def c13 : Code := bodyOf Try.f13
theorem b13 : Try.f13.body = some c13 := by kernel_rfl
theorem n13 : Try.f13.ntmps = M13.N := by kernel_rfl
theorem u13 {p0_s : Option Addr} {p1_who : Int} {w : World} {R : Ending → World → Prop} (h : den Try.prog M13 c13 (argE 0 [(Value.pointer p0_s), (Value.int IntKind.u64 p1_who)]) w (retK Try.prog Try.f13.results.toList R)) : Calls Try.prog 13 #[(Value.pointer p0_s), (Value.int IntKind.u64 p1_who)] w R := calls_den okProg Try.func13 b13 n13 (Nat.le_of_ble_eq_true rfl) h
theorem t13 (p0_s : Option Addr) (p1_who : Int) (w : World) (R : Ending → World → Prop) : den Try.prog M13 c13 (argE 0 [(Value.pointer p0_s), (Value.int IntKind.u64 p1_who)]) w (retK Try.prog Try.f13.results.toList R) =
(∃ a,
  p0_s = some a ∧
    ∃ b,
      World.cell? w (Addr.add a 0) = some (Value.bool b) ∧
        (b = true → R (Ending.returned (Value.int IntKind.i64 7)) w) ∧
          (b = false →
            ((p1_who == (0 : Int)) = true → R (Ending.returned (Value.int IntKind.i64 2)) w) ∧
              ((p1_who == (0 : Int)) = false →
                ∃ a,
                  p0_s = some a ∧
                    Wr w (Addr.add a 0) [Value.bool true] fun w' =>
                      ∃ a,
                        p0_s = some a ∧
                          Wr w' (Addr.add a 1) [Value.int IntKind.u64 p1_who] fun w' =>
                            ∃ a,
                              p0_s = some a ∧
                                Wr w' (Addr.add a 2) [Value.int IntKind.u64 0] fun w' =>
                                  R (Ending.returned (Value.int IntKind.i64 0)) w'))) := by kernel_rfl
/-! (*davit/davitref20.Stop).Ack -/
def M14 : Mt := { N := 18, keep := [(0, [0, 1]), (1, [0, 1, 8]), (2, [4]), (3, []), (4, [4])], ords := [], bk := [], cuts := [], lk := [] }
noncomputable def c14 : Code := bodyOf Try.f14
theorem b14 : Try.f14.body = some c14 := by kernel_rfl
theorem n14 : Try.f14.ntmps = M14.N := by kernel_rfl
theorem u14 {p0_s : Option Addr} {p1_cpu : Int} {w : World} {R : Ending → World → Prop} (h : den Try.prog M14 c14 (argE 0 [(Value.pointer p0_s), (Value.int IntKind.i64 p1_cpu)]) w (retK Try.prog Try.f14.results.toList R)) : Calls Try.prog 14 #[(Value.pointer p0_s), (Value.int IntKind.i64 p1_cpu)] w R := calls_den okProg Try.func14 b14 n14 (Nat.le_of_ble_eq_true rfl) h
theorem t14 (p0_s : Option Addr) (p1_cpu : Int) (w : World) (R : Ending → World → Prop) : den Try.prog M14 c14 (argE 0 [(Value.pointer p0_s), (Value.int IntKind.i64 p1_cpu)]) w (retK Try.prog Try.f14.results.toList R) =
(Call Try.prog 19 [Value.pointer p0_s, Value.int IntKind.i64 p1_cpu] w fun e w' =>
  ∃ b,
    e = Ending.returned (Value.bool b) ∧
      ((!b) = true → R (Ending.returned (Value.int IntKind.i64 6)) w') ∧
        ((!b) = false →
          ∃ a,
            p0_s = some a ∧
              ∃ n,
                World.cell? w' (Addr.add a 2) = some (Value.int IntKind.u64 n) ∧
                  Call Try.prog 26 [Value.int IntKind.u64 n, Value.int IntKind.i64 p1_cpu] w' fun e w' =>
                    ∃ n,
                      e = Ending.returned (Value.int IntKind.u64 n) ∧
                        ∃ a,
                          p0_s = some a ∧
                            Wr w' (Addr.add a 2) [Value.int IntKind.u64 n] fun w' =>
                              R (Ending.returned (Value.int IntKind.i64 0)) w')) := by kernel_rfl
/-! (*davit/stop.Stop).Free -/
def M15 : Mt := { N := 16, keep := [(0, [0]), (1, [0, 3]), (2, [2]), (3, [0, 6]), (4, [2]), (5, []), (6, [2])], ords := [], bk := [(0, [0])], cuts := [], lk := [] }
noncomputable def c15 : Code := bodyOf Try.f15
theorem b15 : Try.f15.body = some c15 := by kernel_rfl
theorem n15 : Try.f15.ntmps = M15.N := by kernel_rfl
theorem u15 {p0_s : Option Addr} {w : World} {R : Ending → World → Prop} (h : den Try.prog M15 c15 (argE 0 [(Value.pointer p0_s)]) w (retK Try.prog Try.f15.results.toList R)) : Calls Try.prog 15 #[(Value.pointer p0_s)] w R := calls_den okProg Try.func15 b15 n15 (Nat.le_of_ble_eq_true rfl) h
theorem t15 (p0_s : Option Addr) (w : World) (R : Ending → World → Prop) : den Try.prog M15 c15 (argE 0 [(Value.pointer p0_s)]) w (retK Try.prog Try.f15.results.toList R) =
((Option.isNone p0_s = true → R (Ending.returned (Value.int IntKind.i64 1)) w) ∧
  (Option.isNone p0_s = false →
    Call Try.prog 17 [Value.pointer p0_s] w fun e w' =>
      ∃ b,
        e = Ending.returned (Value.bool b) ∧
          ((!b) = true → R (Ending.returned (Value.int IntKind.i64 6)) w') ∧
            ((!b) = false →
              ∃ a,
                p0_s = some a ∧
                  Wr w' (Addr.add a 0) [Value.int IntKind.u64 0] fun w' =>
                    ∃ a,
                      p0_s = some a ∧
                        Wr w' (Addr.add a 1) [Value.int IntKind.u64 0] fun w' =>
                          R (Ending.returned (Value.int IntKind.i64 0)) w'))) := by kernel_rfl
/-! (*davit/davitref20.Stop).Free -/
def M16 : Mt := { N := 11, keep := [(0, [0]), (1, [0, 7]), (2, [2]), (3, []), (4, [2])], ords := [], bk := [], cuts := [], lk := [] }
noncomputable def c16 : Code := bodyOf Try.f16
theorem b16 : Try.f16.body = some c16 := by kernel_rfl
theorem n16 : Try.f16.ntmps = M16.N := by kernel_rfl
theorem u16 {p0_s : Option Addr} {w : World} {R : Ending → World → Prop} (h : den Try.prog M16 c16 (argE 0 [(Value.pointer p0_s)]) w (retK Try.prog Try.f16.results.toList R)) : Calls Try.prog 16 #[(Value.pointer p0_s)] w R := calls_den okProg Try.func16 b16 n16 (Nat.le_of_ble_eq_true rfl) h
theorem t16 (p0_s : Option Addr) (w : World) (R : Ending → World → Prop) : den Try.prog M16 c16 (argE 0 [(Value.pointer p0_s)]) w (retK Try.prog Try.f16.results.toList R) =
(∃ a,
  p0_s = some a ∧
    ∃ b,
      World.cell? w (Addr.add a 0) = some (Value.bool b) ∧
        ((!b) = true → R (Ending.returned (Value.int IntKind.i64 6)) w) ∧
          ((!b) = false →
            ∃ a,
              p0_s = some a ∧
                Wr w (Addr.add a 0) [Value.bool false] fun w' =>
                  R (Ending.returned (Value.int IntKind.i64 0)) w')) := by kernel_rfl
/-! (*davit/stop.Stop).On -/
def M17 : Mt := { N := 12, keep := [(0, [0]), (1, [2])], ords := [], bk := [], cuts := [], lk := [] }
noncomputable def c17 : Code := bodyOf Try.f17
theorem b17 : Try.f17.body = some c17 := by kernel_rfl
theorem n17 : Try.f17.ntmps = M17.N := by kernel_rfl
theorem u17 {p0_s : Option Addr} {w : World} {R : Ending → World → Prop} (h : den Try.prog M17 c17 (argE 0 [(Value.pointer p0_s)]) w (retK Try.prog Try.f17.results.toList R)) : Calls Try.prog 17 #[(Value.pointer p0_s)] w R := calls_den okProg Try.func17 b17 n17 (Nat.le_of_ble_eq_true rfl) h
theorem t17 (p0_s : Option Addr) (w : World) (R : Ending → World → Prop) : den Try.prog M17 c17 (argE 0 [(Value.pointer p0_s)]) w (retK Try.prog Try.f17.results.toList R) =
(((!Option.isNone p0_s) = true →
    ∃ a,
      p0_s = some a ∧
        ∃ n,
          World.cell? w (Addr.add a 0) = some (Value.int IntKind.u64 n) ∧
            R (Ending.returned (Value.bool (n != (0 : Int)))) w) ∧
  ((!Option.isNone p0_s) = false → R (Ending.returned (Value.bool false)) w)) := by kernel_rfl
/-! (*davit/stop.Stop).Must -/
def M18 : Mt := { N := 12, keep := [(0, [0, 1]), (1, [1, 5]), (2, [4])], ords := [], bk := [], cuts := [], lk := [] }
noncomputable def c18 : Code := bodyOf Try.f18
theorem b18 : Try.f18.body = some c18 := by kernel_rfl
theorem n18 : Try.f18.ntmps = M18.N := by kernel_rfl
theorem u18 {p0_s : Option Addr} {p1_cpu : Int} {w : World} {R : Ending → World → Prop} (h : den Try.prog M18 c18 (argE 0 [(Value.pointer p0_s), (Value.int IntKind.i64 p1_cpu)]) w (retK Try.prog Try.f18.results.toList R)) : Calls Try.prog 18 #[(Value.pointer p0_s), (Value.int IntKind.i64 p1_cpu)] w R := calls_den okProg Try.func18 b18 n18 (Nat.le_of_ble_eq_true rfl) h
theorem t18 (p0_s : Option Addr) (p1_cpu : Int) (w : World) (R : Ending → World → Prop) : den Try.prog M18 c18 (argE 0 [(Value.pointer p0_s), (Value.int IntKind.i64 p1_cpu)]) w (retK Try.prog Try.f18.results.toList R) =
(Call Try.prog 12 [Value.pointer p0_s] w fun e w' =>
  ∃ n,
    e = Ending.returned (Value.int IntKind.u64 n) ∧
      Call Try.prog 27 [Value.int IntKind.u64 n, Value.int IntKind.i64 p1_cpu] w' fun e w' =>
        ∃ b, e = Ending.returned (Value.bool b) ∧ R (Ending.returned (Value.bool b)) w') := by kernel_rfl
/-! (*davit/davitref20.Stop).Must -/
def M19 : Mt := { N := 26, keep := [(0, [0, 1]), (1, [4])], ords := [], bk := [], cuts := [], lk := [] }
noncomputable def c19 : Code := bodyOf Try.f19
theorem b19 : Try.f19.body = some c19 := by kernel_rfl
theorem n19 : Try.f19.ntmps = M19.N := by kernel_rfl
theorem u19 {p0_s : Option Addr} {p1_cpu : Int} {w : World} {R : Ending → World → Prop} (h : den Try.prog M19 c19 (argE 0 [(Value.pointer p0_s), (Value.int IntKind.i64 p1_cpu)]) w (retK Try.prog Try.f19.results.toList R)) : Calls Try.prog 19 #[(Value.pointer p0_s), (Value.int IntKind.i64 p1_cpu)] w R := calls_den okProg Try.func19 b19 n19 (Nat.le_of_ble_eq_true rfl) h
theorem t19 (p0_s : Option Addr) (p1_cpu : Int) (w : World) (R : Ending → World → Prop) : den Try.prog M19 c19 (argE 0 [(Value.pointer p0_s), (Value.int IntKind.i64 p1_cpu)]) w (retK Try.prog Try.f19.results.toList R) =
(∃ a,
  p0_s = some a ∧
    ∃ b,
      World.cell? w (Addr.add a 0) = some (Value.bool b) ∧
        (b = true →
            ∃ a,
              p0_s = some a ∧
                ∃ n,
                  World.cell? w (Addr.add a 1) = some (Value.int IntKind.u64 n) ∧
                    Call Try.prog 8 [Value.int IntKind.u64 n, Value.int IntKind.i64 p1_cpu] w fun e w' =>
                      ∃ b,
                        e = Ending.returned (Value.bool b) ∧
                          (b = true →
                              ∃ a,
                                p0_s = some a ∧
                                  ∃ n,
                                    World.cell? w' (Addr.add a 2) = some (Value.int IntKind.u64 n) ∧
                                      Call Try.prog 8 [Value.int IntKind.u64 n, Value.int IntKind.i64 p1_cpu]
                                        w' fun e w' =>
                                        ∃ b,
                                          e = Ending.returned (Value.bool b) ∧
                                            R (Ending.returned (Value.bool !b)) w') ∧
                            (b = false → R (Ending.returned (Value.bool false)) w')) ∧
          (b = false → R (Ending.returned (Value.bool false)) w)) := by kernel_rfl
/-! (*davit/stop.Stop).Held -/
def M20 : Mt := { N := 15, keep := [(0, [0, 1]), (1, [4])], ords := [], bk := [], cuts := [], lk := [] }
noncomputable def c20 : Code := bodyOf Try.f20
theorem b20 : Try.f20.body = some c20 := by kernel_rfl
theorem n20 : Try.f20.ntmps = M20.N := by kernel_rfl
theorem u20 {p0_s : Option Addr} {p1_cpu : Int} {w : World} {R : Ending → World → Prop} (h : den Try.prog M20 c20 (argE 0 [(Value.pointer p0_s), (Value.int IntKind.i64 p1_cpu)]) w (retK Try.prog Try.f20.results.toList R)) : Calls Try.prog 20 #[(Value.pointer p0_s), (Value.int IntKind.i64 p1_cpu)] w R := calls_den okProg Try.func20 b20 n20 (Nat.le_of_ble_eq_true rfl) h
theorem t20 (p0_s : Option Addr) (p1_cpu : Int) (w : World) (R : Ending → World → Prop) : den Try.prog M20 c20 (argE 0 [(Value.pointer p0_s), (Value.int IntKind.i64 p1_cpu)]) w (retK Try.prog Try.f20.results.toList R) =
(((!Option.isNone p0_s) = true →
    ∃ a,
      p0_s = some a ∧
        ∃ n,
          World.cell? w (Addr.add a 1) = some (Value.int IntKind.u64 n) ∧
            Call Try.prog 27 [Value.int IntKind.u64 n, Value.int IntKind.i64 p1_cpu] w fun e w' =>
              ∃ b, e = Ending.returned (Value.bool b) ∧ R (Ending.returned (Value.bool b)) w') ∧
  ((!Option.isNone p0_s) = false → R (Ending.returned (Value.bool false)) w)) := by kernel_rfl
/-! (*davit/davitref20.Stop).Holds -/
def M21 : Mt := { N := 17, keep := [(0, [0, 1]), (1, [4])], ords := [], bk := [], cuts := [], lk := [] }
noncomputable def c21 : Code := bodyOf Try.f21
theorem b21 : Try.f21.body = some c21 := by kernel_rfl
theorem n21 : Try.f21.ntmps = M21.N := by kernel_rfl
theorem u21 {p0_s : Option Addr} {p1_cpu : Int} {w : World} {R : Ending → World → Prop} (h : den Try.prog M21 c21 (argE 0 [(Value.pointer p0_s), (Value.int IntKind.i64 p1_cpu)]) w (retK Try.prog Try.f21.results.toList R)) : Calls Try.prog 21 #[(Value.pointer p0_s), (Value.int IntKind.i64 p1_cpu)] w R := calls_den okProg Try.func21 b21 n21 (Nat.le_of_ble_eq_true rfl) h
theorem t21 (p0_s : Option Addr) (p1_cpu : Int) (w : World) (R : Ending → World → Prop) : den Try.prog M21 c21 (argE 0 [(Value.pointer p0_s), (Value.int IntKind.i64 p1_cpu)]) w (retK Try.prog Try.f21.results.toList R) =
(∃ a,
  p0_s = some a ∧
    ∃ b,
      World.cell? w (Addr.add a 0) = some (Value.bool b) ∧
        (b = true →
            ∃ a,
              p0_s = some a ∧
                ∃ n,
                  World.cell? w (Addr.add a 2) = some (Value.int IntKind.u64 n) ∧
                    Call Try.prog 8 [Value.int IntKind.u64 n, Value.int IntKind.i64 p1_cpu] w fun e w' =>
                      ∃ b, e = Ending.returned (Value.bool b) ∧ R (Ending.returned (Value.bool b)) w') ∧
          (b = false → R (Ending.returned (Value.bool false)) w)) := by kernel_rfl
/-! (*davit/davitref20.Stop).Ready -/
def M22 : Mt := { N := 12, keep := [(0, [0]), (1, [2])], ords := [], bk := [], cuts := [], lk := [] }
noncomputable def c22 : Code := bodyOf Try.f22
theorem b22 : Try.f22.body = some c22 := by kernel_rfl
theorem n22 : Try.f22.ntmps = M22.N := by kernel_rfl
theorem u22 {p0_s : Option Addr} {w : World} {R : Ending → World → Prop} (h : den Try.prog M22 c22 (argE 0 [(Value.pointer p0_s)]) w (retK Try.prog Try.f22.results.toList R)) : Calls Try.prog 22 #[(Value.pointer p0_s)] w R := calls_den okProg Try.func22 b22 n22 (Nat.le_of_ble_eq_true rfl) h
theorem t22 (p0_s : Option Addr) (w : World) (R : Ending → World → Prop) : den Try.prog M22 c22 (argE 0 [(Value.pointer p0_s)]) w (retK Try.prog Try.f22.results.toList R) =
(∃ a,
  p0_s = some a ∧
    ∃ b,
      World.cell? w (Addr.add a 0) = some (Value.bool b) ∧
        (b = true →
            Call Try.prog 23 [Value.pointer p0_s] w fun e w' =>
              ∃ n,
                e = Ending.returned (Value.int IntKind.u64 n) ∧ R (Ending.returned (Value.bool (n == (0 : Int)))) w') ∧
          (b = false → R (Ending.returned (Value.bool false)) w)) := by kernel_rfl
/-! (*davit/davitref20.Stop).Left -/
def M23 : Mt := { N := 17, keep := [(0, [0]), (1, [0, 7]), (2, [2]), (3, [2])], ords := [(3, [0, 1, 2, 3, 4, 5, 6, 7, 8, 9])], bk := [], cuts := [], lk := [] }
noncomputable def c23 : Code := bodyOf Try.f23
theorem b23 : Try.f23.body = some c23 := by kernel_rfl
theorem n23 : Try.f23.ntmps = M23.N := by kernel_rfl
theorem u23 {p0_s : Option Addr} {w : World} {R : Ending → World → Prop} (h : den Try.prog M23 c23 (argE 0 [(Value.pointer p0_s)]) w (retK Try.prog Try.f23.results.toList R)) : Calls Try.prog 23 #[(Value.pointer p0_s)] w R := calls_den okProg Try.func23 b23 n23 (Nat.le_of_ble_eq_true rfl) h
theorem t23 (p0_s : Option Addr) (w : World) (R : Ending → World → Prop) : den Try.prog M23 c23 (argE 0 [(Value.pointer p0_s)]) w (retK Try.prog Try.f23.results.toList R) =
(∃ a,
  p0_s = some a ∧
    ∃ b,
      World.cell? w (Addr.add a 0) = some (Value.bool b) ∧
        ((!b) = true → R (Ending.returned (Value.int IntKind.u64 0)) w) ∧
          ((!b) = false →
            ∀ (w' : World),
              World.heap w' = World.heap w →
                World.os w' = World.os w →
                  World.tape w' = World.tape w →
                    World.output w' = World.output w →
                      ∃ a,
                        p0_s = some a ∧
                          ∃ n,
                            World.cell? w' (Addr.add a 1) = some (Value.int IntKind.u64 n) ∧
                              ∃ a,
                                p0_s = some a ∧
                                  ∃ n_1,
                                    World.cell? w' (Addr.add a 2) = some (Value.int IntKind.u64 n_1) ∧
                                      Call Try.prog 28 [Value.int IntKind.u64 n, Value.int IntKind.u64 n_1] w'
                                        fun e w' =>
                                        ∃ n,
                                          e = Ending.returned (Value.int IntKind.u64 n) ∧
                                            R (Ending.returned (Value.int IntKind.u64 n)) w')) := by kernel_rfl
/-! (davit/mask.Mask).With -/
def M24 : Mt := { N := 19, keep := [(0, [0, 1]), (1, [0, 7, 8, 9]), (2, [0, 7, 8, 9, 10]), (3, [0, 6, 7, 8, 9]), (4, [0, 7, 8, 9]), (5, [0, 7, 8, 9]), (6, [4])], ords := [], bk := [(0, [0]), (1, [0, 7, 8, 9])], cuts := [], lk := [(2, [0, 7, 8, 9])] }
noncomputable def c24 : Code := bodyOf Try.f24
noncomputable def c24_0 : Code := c24.sr.sr
noncomputable def c24_1 : Code := c24.sr.sl.sr.sl.sl
def e24_1 (p0_m : Int) (p7_t_a : Option Addr) (p7_t_n : Nat) (p7_t_c : Nat) (p8_t : Int) (p9_t : Int) : Env := [(0, SV.v (Value.int IntKind.u64 p0_m)), (7, SV.v (Value.slice p7_t_a p7_t_n p7_t_c)), (8, SV.v (Value.int IntKind.i64 p8_t)), (9, SV.v (Value.int IntKind.i64 p9_t))]
def k24_1 (R : Ending → World → Prop) : Cont := blockK 0 [0] (seqK (fun E w => cutB (findL M24.cuts (headReg c24_0)) Try.prog M24 c24_0 E w (retK Try.prog Try.f24.results.toList R) fun E => den Try.prog M24 c24_0 E w (retK Try.prog Try.f24.results.toList R)) (retK Try.prog Try.f24.results.toList R))
theorem b24 : Try.f24.body = some c24 := by kernel_rfl
theorem n24 : Try.f24.ntmps = M24.N := by kernel_rfl
theorem u24 {p0_m : Int} {p1_cpus_a : Option Addr} {p1_cpus_n : Nat} {p1_cpus_c : Nat} {w : World} {R : Ending → World → Prop} (h : den Try.prog M24 c24 (argE 0 [(Value.int IntKind.u64 p0_m), (Value.slice p1_cpus_a p1_cpus_n p1_cpus_c)]) w (retK Try.prog Try.f24.results.toList R)) : Calls Try.prog 24 #[(Value.int IntKind.u64 p0_m), (Value.slice p1_cpus_a p1_cpus_n p1_cpus_c)] w R := calls_den okProg Try.func24 b24 n24 (Nat.le_of_ble_eq_true rfl) h
theorem t24 (p0_m : Int) (p1_cpus_a : Option Addr) (p1_cpus_n : Nat) (p1_cpus_c : Nat) (w : World) (R : Ending → World → Prop) : den Try.prog M24 c24 (argE 0 [(Value.int IntKind.u64 p0_m), (Value.slice p1_cpus_a p1_cpus_n p1_cpus_c)]) w (retK Try.prog Try.f24.results.toList R) =
(Cut
  (WP Try.prog 19 (Code.loop c24_1) (e24_1 p0_m p1_cpus_a p1_cpus_n p1_cpus_c (↑p1_cpus_n : Int) (0 : Int))
    w (k24_1 R))) := by kernel_rfl
theorem t24_1 (p0_m : Int) (p7_t_a : Option Addr) (p7_t_n : Nat) (p7_t_c : Nat) (p8_t : Int) (p9_t : Int) (w : World) (B24_1 : Env → World → Prop) (R : Ending → World → Prop) : den Try.prog M24 c24_1 (e24_1 p0_m p7_t_a p7_t_n p7_t_c p8_t p9_t) w (loopK B24_1 (k24_1 R)) =
((decide (p9_t < p8_t) = true →
    ((0 : Int) ≤ p9_t ∧ p9_t < (↑p7_t_n : Int)) ∧
      ∃ a,
        p7_t_a = some a ∧
          ∃ n,
            World.cell? w (Addr.add a (Int.toNat p9_t * 1)) = some (Value.int IntKind.i64 n) ∧
              Call Try.prog 29 [Value.int IntKind.i64 n] w fun e w' =>
                ∃ n,
                  e = Ending.returned (Value.int IntKind.u64 n) ∧
                    B24_1
                      [(0, SV.v (Value.int IntKind.u64 (bitsOp BinOp.or IntKind.u64 p0_m n))),
                        (7, SV.v (Value.slice p7_t_a p7_t_n p7_t_c)),
                        (8, SV.v (Value.int IntKind.i64 p8_t)),
                        (9, SV.v (Value.int IntKind.i64 (IntKind.wrap IntKind.i64 (p9_t + (1 : Int)))))]
                      w') ∧
  (decide (p9_t < p8_t) = false → R (Ending.returned (Value.int IntKind.u64 p0_m)) w)) := by kernel_rfl
/-! (davit/mask.Mask).Not -/
def M25 : Mt := { N := 8, keep := [(0, [0, 1]), (1, [4])], ords := [], bk := [], cuts := [], lk := [] }
noncomputable def c25 : Code := bodyOf Try.f25
theorem b25 : Try.f25.body = some c25 := by kernel_rfl
theorem n25 : Try.f25.ntmps = M25.N := by kernel_rfl
theorem u25 {p0_m : Int} {p1_o : Int} {w : World} {R : Ending → World → Prop} (h : den Try.prog M25 c25 (argE 0 [(Value.int IntKind.u64 p0_m), (Value.int IntKind.u64 p1_o)]) w (retK Try.prog Try.f25.results.toList R)) : Calls Try.prog 25 #[(Value.int IntKind.u64 p0_m), (Value.int IntKind.u64 p1_o)] w R := calls_den okProg Try.func25 b25 n25 (Nat.le_of_ble_eq_true rfl) h
theorem t25 (p0_m : Int) (p1_o : Int) (w : World) (R : Ending → World → Prop) : den Try.prog M25 c25 (argE 0 [(Value.int IntKind.u64 p0_m), (Value.int IntKind.u64 p1_o)]) w (retK Try.prog Try.f25.results.toList R) =
(R (Ending.returned (Value.int IntKind.u64 (bitsOp BinOp.andNot IntKind.u64 p0_m p1_o))) w) := by kernel_rfl
/-! davit/davitref01.With -/
def M26 : Mt := { N := 22, keep := [(0, [0, 1]), (1, [0, 1, 15]), (2, [4]), (3, [4])], ords := [], bk := [], cuts := [], lk := [] }
noncomputable def c26 : Code := bodyOf Try.f26
theorem b26 : Try.f26.body = some c26 := by kernel_rfl
theorem n26 : Try.f26.ntmps = M26.N := by kernel_rfl
theorem u26 {p0_m : Int} {p1_cpu : Int} {w : World} {R : Ending → World → Prop} (h : den Try.prog M26 c26 (argE 0 [(Value.int IntKind.u64 p0_m), (Value.int IntKind.i64 p1_cpu)]) w (retK Try.prog Try.f26.results.toList R)) : Calls Try.prog 26 #[(Value.int IntKind.u64 p0_m), (Value.int IntKind.i64 p1_cpu)] w R := calls_den okProg Try.func26 b26 n26 (Nat.le_of_ble_eq_true rfl) h
theorem t26 (p0_m : Int) (p1_cpu : Int) (w : World) (R : Ending → World → Prop) : den Try.prog M26 c26 (argE 0 [(Value.int IntKind.u64 p0_m), (Value.int IntKind.i64 p1_cpu)]) w (retK Try.prog Try.f26.results.toList R) =
((decide (p1_cpu < (0 : Int)) = false →
    (decide (p1_cpu > (63 : Int)) = false →
        Call Try.prog 8 [Value.int IntKind.u64 p0_m, Value.int IntKind.i64 p1_cpu] w fun e w' =>
          ∃ b,
            e = Ending.returned (Value.bool b) ∧
              (b = true → R (Ending.returned (Value.int IntKind.u64 p0_m)) w') ∧
                (b = false →
                  (0 : Int) ≤ IntKind.wrap IntKind.u64 p1_cpu ∧
                    R
                      (Ending.returned
                        (Value.int IntKind.u64
                          (IntKind.wrap IntKind.u64
                            (p0_m + shlOp IntKind.u64 (1 : Int) (IntKind.wrap IntKind.u64 p1_cpu)))))
                      w')) ∧
      (decide (p1_cpu > (63 : Int)) = true → R (Ending.returned (Value.int IntKind.u64 p0_m)) w)) ∧
  (decide (p1_cpu < (0 : Int)) = true → R (Ending.returned (Value.int IntKind.u64 p0_m)) w)) := by kernel_rfl
/-! (davit/mask.Mask).Has -/
def M27 : Mt := { N := 10, keep := [(0, [0, 1]), (1, [4])], ords := [], bk := [], cuts := [], lk := [] }
noncomputable def c27 : Code := bodyOf Try.f27
theorem b27 : Try.f27.body = some c27 := by kernel_rfl
theorem n27 : Try.f27.ntmps = M27.N := by kernel_rfl
theorem u27 {p0_m : Int} {p1_cpu : Int} {w : World} {R : Ending → World → Prop} (h : den Try.prog M27 c27 (argE 0 [(Value.int IntKind.u64 p0_m), (Value.int IntKind.i64 p1_cpu)]) w (retK Try.prog Try.f27.results.toList R)) : Calls Try.prog 27 #[(Value.int IntKind.u64 p0_m), (Value.int IntKind.i64 p1_cpu)] w R := calls_den okProg Try.func27 b27 n27 (Nat.le_of_ble_eq_true rfl) h
theorem t27 (p0_m : Int) (p1_cpu : Int) (w : World) (R : Ending → World → Prop) : den Try.prog M27 c27 (argE 0 [(Value.int IntKind.u64 p0_m), (Value.int IntKind.i64 p1_cpu)]) w (retK Try.prog Try.f27.results.toList R) =
(Call Try.prog 29 [Value.int IntKind.i64 p1_cpu] w fun e w' =>
  ∃ n,
    e = Ending.returned (Value.int IntKind.u64 n) ∧
      R (Ending.returned (Value.bool (bitsOp BinOp.and IntKind.u64 p0_m n != (0 : Int)))) w') := by kernel_rfl
/-! davit/davitref01.Not -/
def M28 : Mt := { N := 26, keep := [(0, [0, 1]), (1, [0, 1, 5]), (2, [0, 1, 5, 6]), (3, [0, 1, 5, 6, 8]), (4, [0, 1, 5, 6]), (5, [0, 1, 5, 6, 19]), (6, [0, 1, 5, 6]), (7, [4])], ords := [], bk := [(0, [5]), (1, [0, 1, 5, 6])], cuts := [(7, [5])], lk := [(3, [0, 1, 5, 6])] }
noncomputable def c28 : Code := bodyOf Try.f28
noncomputable def c28_0 : Code := c28.sr.sr.sr
noncomputable def c28_1 : Code := c28.sr.sr.sl.sr.sl.sl
def e28_0 (p5_l_a : Option Addr) (p5_l_n : Nat) (p5_l_c : Nat) : Env := [(5, SV.v (Value.slice p5_l_a p5_l_n p5_l_c))]
def e28_1 (p0_m : Int) (p1_o : Int) (p5_l_a : Option Addr) (p5_l_n : Nat) (p5_l_c : Nat) (p6_i : Int) : Env := [(0, SV.v (Value.int IntKind.u64 p0_m)), (1, SV.v (Value.int IntKind.u64 p1_o)), (5, SV.v (Value.slice p5_l_a p5_l_n p5_l_c)), (6, SV.v (Value.int IntKind.i64 p6_i))]
def k28_0 (R : Ending → World → Prop) : Cont := retK Try.prog Try.f28.results.toList R
def k28_1 (R : Ending → World → Prop) : Cont := blockK 0 [5] (seqK (fun E w => cutB (findL M28.cuts (headReg c28_0)) Try.prog M28 c28_0 E w (retK Try.prog Try.f28.results.toList R) fun E => den Try.prog M28 c28_0 E w (retK Try.prog Try.f28.results.toList R)) (retK Try.prog Try.f28.results.toList R))
theorem b28 : Try.f28.body = some c28 := by kernel_rfl
theorem n28 : Try.f28.ntmps = M28.N := by kernel_rfl
theorem u28 {p0_m : Int} {p1_o : Int} {w : World} {R : Ending → World → Prop} (h : den Try.prog M28 c28 (argE 0 [(Value.int IntKind.u64 p0_m), (Value.int IntKind.u64 p1_o)]) w (retK Try.prog Try.f28.results.toList R)) : Calls Try.prog 28 #[(Value.int IntKind.u64 p0_m), (Value.int IntKind.u64 p1_o)] w R := calls_den okProg Try.func28 b28 n28 (Nat.le_of_ble_eq_true rfl) h
theorem t28 (p0_m : Int) (p1_o : Int) (w : World) (R : Ending → World → Prop) : den Try.prog M28 c28 (argE 0 [(Value.int IntKind.u64 p0_m), (Value.int IntKind.u64 p1_o)]) w (retK Try.prog Try.f28.results.toList R) =
(Cut (WP Try.prog 26 (Code.loop c28_1) (e28_1 p0_m p1_o none 0 0 (0 : Int)) w (k28_1 R))) := by kernel_rfl
theorem t28_0 (p5_l_a : Option Addr) (p5_l_n : Nat) (p5_l_c : Nat) (w : World) (R : Ending → World → Prop) : den Try.prog M28 c28_0 (e28_0 p5_l_a p5_l_n p5_l_c) w (k28_0 R) =
(Call Try.prog 30 [Value.slice p5_l_a p5_l_n p5_l_c] w fun e w' =>
  ∃ n, e = Ending.returned (Value.int IntKind.u64 n) ∧ R (Ending.returned (Value.int IntKind.u64 n)) w') := by kernel_rfl
theorem t28_1 (p0_m : Int) (p1_o : Int) (p5_l_a : Option Addr) (p5_l_n : Nat) (p5_l_c : Nat) (p6_i : Int) (w : World) (B28_1 : Env → World → Prop) (R : Ending → World → Prop) : den Try.prog M28 c28_1 (e28_1 p0_m p1_o p5_l_a p5_l_n p5_l_c p6_i) w (loopK B28_1 (k28_1 R)) =
((decide (p6_i < (64 : Int)) = true →
    Call Try.prog 8 [Value.int IntKind.u64 p0_m, Value.int IntKind.i64 p6_i] w fun e w' =>
      ∃ b,
        e = Ending.returned (Value.bool b) ∧
          (b = true →
              Call Try.prog 8 [Value.int IntKind.u64 p1_o, Value.int IntKind.i64 p6_i] w' fun e w' =>
                ∃ b,
                  e = Ending.returned (Value.bool b) ∧
                    ((!b) = true →
                        New w' [Value.int IntKind.i64 p6_i] 3 fun p w' =>
                          ∃ p_1 n c w'_1,
                            Sem.run Try.prog
                                  (Builtin.append_ #[23, 23] 23
                                    #[Value.slice p5_l_a p5_l_n p5_l_c, Value.slice (some p) 1 1])
                                  w' =
                                Result.ok (Value.slice p_1 n c) w'_1 ∧
                              B28_1
                                [(0, SV.v (Value.int IntKind.u64 p0_m)),
                                  (1, SV.v (Value.int IntKind.u64 p1_o)),
                                  (5, SV.v (Value.slice p_1 n c)),
                                  (6,
                                    SV.v (Value.int IntKind.i64 (IntKind.wrap IntKind.i64 (p6_i + (1 : Int)))))]
                                w'_1) ∧
                      ((!b) = false →
                        B28_1
                          [(0, SV.v (Value.int IntKind.u64 p0_m)),
                            (1, SV.v (Value.int IntKind.u64 p1_o)),
                            (5, SV.v (Value.slice p5_l_a p5_l_n p5_l_c)),
                            (6, SV.v (Value.int IntKind.i64 (IntKind.wrap IntKind.i64 (p6_i + (1 : Int)))))]
                          w')) ∧
            (b = false →
              B28_1
                [(0, SV.v (Value.int IntKind.u64 p0_m)), (1, SV.v (Value.int IntKind.u64 p1_o)),
                  (5, SV.v (Value.slice p5_l_a p5_l_n p5_l_c)),
                  (6, SV.v (Value.int IntKind.i64 (IntKind.wrap IntKind.i64 (p6_i + (1 : Int)))))]
                w')) ∧
  (decide (p6_i < (64 : Int)) = false → CutD Try.prog M28 c28_0 (e28_0 p5_l_a p5_l_n p5_l_c) w (k28_0 R))) := by kernel_rfl
/-! davit/mask.one -/
def M29 : Mt := { N := 11, keep := [(0, [0]), (1, [0, 8]), (2, [2]), (3, [2])], ords := [], bk := [], cuts := [], lk := [] }
noncomputable def c29 : Code := bodyOf Try.f29
theorem b29 : Try.f29.body = some c29 := by kernel_rfl
theorem n29 : Try.f29.ntmps = M29.N := by kernel_rfl
theorem u29 {p0_cpu : Int} {w : World} {R : Ending → World → Prop} (h : den Try.prog M29 c29 (argE 0 [(Value.int IntKind.i64 p0_cpu)]) w (retK Try.prog Try.f29.results.toList R)) : Calls Try.prog 29 #[(Value.int IntKind.i64 p0_cpu)] w R := calls_den okProg Try.func29 b29 n29 (Nat.le_of_ble_eq_true rfl) h
theorem t29 (p0_cpu : Int) (w : World) (R : Ending → World → Prop) : den Try.prog M29 c29 (argE 0 [(Value.int IntKind.i64 p0_cpu)]) w (retK Try.prog Try.f29.results.toList R) =
((decide (p0_cpu < (0 : Int)) = false →
    (decide (p0_cpu ≥ (64 : Int)) = true → R (Ending.returned (Value.int IntKind.u64 0)) w) ∧
      (decide (p0_cpu ≥ (64 : Int)) = false →
        (0 : Int) ≤ p0_cpu ∧ R (Ending.returned (Value.int IntKind.u64 (shlOp IntKind.u64 (1 : Int) p0_cpu))) w)) ∧
  (decide (p0_cpu < (0 : Int)) = true → R (Ending.returned (Value.int IntKind.u64 0)) w)) := by kernel_rfl
/-! davit/davitref01.Of -/
def M30 : Mt := { N := 18, keep := [(0, [0]), (1, [0, 3]), (2, [0, 3, 4]), (3, [0, 3, 4, 8]), (4, [0, 3, 4]), (5, [0, 3, 4]), (6, [2])], ords := [], bk := [(0, [3]), (1, [0, 3, 4])], cuts := [], lk := [(3, [0, 3, 4])] }
noncomputable def c30 : Code := bodyOf Try.f30
noncomputable def c30_0 : Code := c30.sr.sr.sr
noncomputable def c30_1 : Code := c30.sr.sr.sl.sr.sl.sl
def e30_1 (p0_l_a : Option Addr) (p0_l_n : Nat) (p0_l_c : Nat) (p3_m : Int) (p4_i : Int) : Env := [(0, SV.v (Value.slice p0_l_a p0_l_n p0_l_c)), (3, SV.v (Value.int IntKind.u64 p3_m)), (4, SV.v (Value.int IntKind.i64 p4_i))]
def k30_1 (R : Ending → World → Prop) : Cont := blockK 0 [3] (seqK (fun E w => cutB (findL M30.cuts (headReg c30_0)) Try.prog M30 c30_0 E w (retK Try.prog Try.f30.results.toList R) fun E => den Try.prog M30 c30_0 E w (retK Try.prog Try.f30.results.toList R)) (retK Try.prog Try.f30.results.toList R))
theorem b30 : Try.f30.body = some c30 := by kernel_rfl
theorem n30 : Try.f30.ntmps = M30.N := by kernel_rfl
theorem u30 {p0_l_a : Option Addr} {p0_l_n : Nat} {p0_l_c : Nat} {w : World} {R : Ending → World → Prop} (h : den Try.prog M30 c30 (argE 0 [(Value.slice p0_l_a p0_l_n p0_l_c)]) w (retK Try.prog Try.f30.results.toList R)) : Calls Try.prog 30 #[(Value.slice p0_l_a p0_l_n p0_l_c)] w R := calls_den okProg Try.func30 b30 n30 (Nat.le_of_ble_eq_true rfl) h
theorem t30 (p0_l_a : Option Addr) (p0_l_n : Nat) (p0_l_c : Nat) (w : World) (R : Ending → World → Prop) : den Try.prog M30 c30 (argE 0 [(Value.slice p0_l_a p0_l_n p0_l_c)]) w (retK Try.prog Try.f30.results.toList R) =
(Cut (WP Try.prog 18 (Code.loop c30_1) (e30_1 p0_l_a p0_l_n p0_l_c (0 : Int) (0 : Int)) w (k30_1 R))) := by kernel_rfl
theorem t30_1 (p0_l_a : Option Addr) (p0_l_n : Nat) (p0_l_c : Nat) (p3_m : Int) (p4_i : Int) (w : World) (B30_1 : Env → World → Prop) (R : Ending → World → Prop) : den Try.prog M30 c30_1 (e30_1 p0_l_a p0_l_n p0_l_c p3_m p4_i) w (loopK B30_1 (k30_1 R)) =
((decide (p4_i < (↑p0_l_n : Int)) = true →
    ((0 : Int) ≤ p4_i ∧ p4_i < (↑p0_l_n : Int)) ∧
      ∃ a,
        p0_l_a = some a ∧
          ∃ n,
            World.cell? w (Addr.add a (Int.toNat p4_i * 1)) = some (Value.int IntKind.i64 n) ∧
              Call Try.prog 26 [Value.int IntKind.u64 p3_m, Value.int IntKind.i64 n] w fun e w' =>
                ∃ n,
                  e = Ending.returned (Value.int IntKind.u64 n) ∧
                    B30_1
                      [(0, SV.v (Value.slice p0_l_a p0_l_n p0_l_c)),
                        (3, SV.v (Value.int IntKind.u64 n)),
                        (4, SV.v (Value.int IntKind.i64 (IntKind.wrap IntKind.i64 (p4_i + (1 : Int)))))]
                      w') ∧
  (decide (p4_i < (↑p0_l_n : Int)) = false → R (Ending.returned (Value.int IntKind.u64 p3_m)) w)) := by kernel_rfl
end Go.Dav
