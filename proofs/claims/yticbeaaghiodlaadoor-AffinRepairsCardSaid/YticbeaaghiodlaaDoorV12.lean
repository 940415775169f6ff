/- What functions of the program come to. -/
import Derived.Test.YticbeaaghiodlaaDoorPrg12
namespace Go.Dav
open Go.Proofs
/-! davit/davitlaw12.AffinChooses -/
def M3 : Mt := { N := 45, keep := [(0, [0, 1, 2]), (1, [0, 1, 2, 7, 8, 9]), (2, [7, 8, 9, 10, 11, 12]), (3, [6])], ords := [], bk := [], cuts := [], lk := [] }
noncomputable def c3 : Code := bodyOf Tryd.f3
theorem b3 : Tryd.f3.body = some c3 := by kernel_rfl
theorem n3 : Tryd.f3.ntmps = M3.N := by kernel_rfl
theorem u3 {p0_want : Int} {p1_active : Int} {p2_near : Int} {w : World} {R : Ending → World → Prop} (h : den Tryd.prog M3 c3 (argE 0 [(Value.int IntKind.u64 p0_want), (Value.int IntKind.u64 p1_active), (Value.int IntKind.i64 p2_near)]) w (retK Tryd.prog Tryd.f3.results.toList R)) : Calls Tryd.prog 3 #[(Value.int IntKind.u64 p0_want), (Value.int IntKind.u64 p1_active), (Value.int IntKind.i64 p2_near)] w R := calls_den okProg Tryd.func3 b3 n3 (Nat.le_of_ble_eq_true rfl) h
theorem t3 (p0_want : Int) (p1_active : Int) (p2_near : Int) (w : World) (R : Ending → World → Prop) : den Tryd.prog M3 c3 (argE 0 [(Value.int IntKind.u64 p0_want), (Value.int IntKind.u64 p1_active), (Value.int IntKind.i64 p2_near)]) w (retK Tryd.prog Tryd.f3.results.toList R) =
(Call Tryd.prog 6
  [Value.int IntKind.u64 p0_want, Value.int IntKind.u64 p1_active, Value.int IntKind.i64 p2_near] w fun e w' =>
  ∃ n b n_1,
    e = Ending.returned (Value.tuple #[Value.int IntKind.i64 n, Value.bool b, Value.int IntKind.i64 n_1]) ∧
      Call Tryd.prog 7
        [Value.int IntKind.u64 p0_want, Value.int IntKind.u64 p1_active, Value.int IntKind.i64 p2_near] w'
        fun e w' =>
        ∃ n_2 b_1 n_3,
          e = Ending.returned (Value.tuple #[Value.int IntKind.i64 n_2, Value.bool b_1, Value.int IntKind.i64 n_3]) ∧
            ((n == n_2) = true →
                ((b == b_1) = true →
                    ((n_1 == n_3) = true →
                        Call Tryd.prog 8 [] w' fun e w' =>
                          ∃ b, e = Ending.returned (Value.bool b) ∧ R (Ending.returned (Value.bool b)) w') ∧
                      ((n_1 == n_3) = false → R (Ending.returned (Value.bool false)) w')) ∧
                  ((b == b_1) = false → R (Ending.returned (Value.bool false)) w')) ∧
              ((n == n_2) = false → R (Ending.returned (Value.bool false)) w')) := by kernel_rfl
/-! davit/davitlaw12.AffinRight -/
def M4 : Mt := { N := 47, keep := [(0, [0, 1, 2]), (1, [0, 1, 7, 8, 9]), (2, [0, 1, 7, 8, 19]), (3, [6]), (4, [6])], ords := [], bk := [], cuts := [], lk := [] }
noncomputable def c4 : Code := bodyOf Tryd.f4
theorem b4 : Tryd.f4.body = some c4 := by kernel_rfl
theorem n4 : Tryd.f4.ntmps = M4.N := by kernel_rfl
theorem u4 {p0_want : Int} {p1_active : Int} {p2_near : Int} {w : World} {R : Ending → World → Prop} (h : den Tryd.prog M4 c4 (argE 0 [(Value.int IntKind.u64 p0_want), (Value.int IntKind.u64 p1_active), (Value.int IntKind.i64 p2_near)]) w (retK Tryd.prog Tryd.f4.results.toList R)) : Calls Tryd.prog 4 #[(Value.int IntKind.u64 p0_want), (Value.int IntKind.u64 p1_active), (Value.int IntKind.i64 p2_near)] w R := calls_den okProg Tryd.func4 b4 n4 (Nat.le_of_ble_eq_true rfl) h
theorem t4 (p0_want : Int) (p1_active : Int) (p2_near : Int) (w : World) (R : Ending → World → Prop) : den Tryd.prog M4 c4 (argE 0 [(Value.int IntKind.u64 p0_want), (Value.int IntKind.u64 p1_active), (Value.int IntKind.i64 p2_near)]) w (retK Tryd.prog Tryd.f4.results.toList R) =
(Call Tryd.prog 6
  [Value.int IntKind.u64 p0_want, Value.int IntKind.u64 p1_active, Value.int IntKind.i64 p2_near] w fun e w' =>
  ∃ n b n_1,
    e = Ending.returned (Value.tuple #[Value.int IntKind.i64 n, Value.bool b, Value.int IntKind.i64 n_1]) ∧
      ((n_1 != (0 : Int)) = true →
          ((p1_active == (0 : Int)) = true →
              Call Tryd.prog 8 [] w' fun e w' =>
                ∃ b, e = Ending.returned (Value.bool b) ∧ R (Ending.returned (Value.bool b)) w') ∧
            ((p1_active == (0 : Int)) = false → R (Ending.returned (Value.bool false)) w')) ∧
        ((n_1 != (0 : Int)) = false →
          Call Tryd.prog 9 [Value.int IntKind.u64 p1_active, Value.int IntKind.i64 n] w' fun e w' =>
            ∃ b_1,
              e = Ending.returned (Value.bool b_1) ∧
                (b_1 = true →
                    Call Tryd.prog 9 [Value.int IntKind.u64 p0_want, Value.int IntKind.i64 n] w' fun e w' =>
                      ∃ b_2,
                        e = Ending.returned (Value.bool b_2) ∧
                          ((b_2 == !b) = true →
                              Call Tryd.prog 10
                                [Value.int IntKind.u64 p0_want, Value.int IntKind.u64 p1_active] w' fun e w' =>
                                ∃ n,
                                  e = Ending.returned (Value.int IntKind.u64 n) ∧
                                    ((b == (n == (0 : Int))) = true →
                                        Call Tryd.prog 8 [] w' fun e w' =>
                                          ∃ b,
                                            e = Ending.returned (Value.bool b) ∧
                                              R (Ending.returned (Value.bool b)) w') ∧
                                      ((b == (n == (0 : Int))) = false → R (Ending.returned (Value.bool false)) w')) ∧
                            ((b_2 == !b) = false → R (Ending.returned (Value.bool false)) w')) ∧
                  (b_1 = false → R (Ending.returned (Value.bool false)) w'))) := by kernel_rfl
/-! davit/davitlaw12.AffinRepairs -/
def M5 : Mt := { N := 57, keep := [(0, [0, 1]), (1, [0, 1, 10]), (2, [4]), (3, [0, 1, 5]), (4, [0, 1, 5, 6]), (5, [0, 1, 5, 6, 23]), (6, [4]), (7, [0, 1, 5, 6, 7]), (8, [0, 1, 5, 6, 7, 33]), (9, [0, 1, 5, 6, 7]), (10, [0, 1, 5, 6, 7, 48]), (11, [4]), (12, [4])], ords := [(10, [0, 1, 2, 3, 4, 6, 7, 8, 9, 10, 5, 11, 12])], bk := [(0, [0, 6]), (1, [0, 1, 5, 6, 7])], cuts := [(12, [0, 6])], lk := [(8, [0, 1, 5, 6, 7])] }
noncomputable def c5 : Code := bodyOf Tryd.f5
noncomputable def c5_0 : Code := c5.sr.sr.sr.sr.sr.sr
noncomputable def c5_1 : Code := c5.sr.sr.sr.sr.sr.sl.sr.sl.sl
def e5_0 (p0_active : Int) (p6_x_a : Option Addr) (p6_x_n : Nat) (p6_x_c : Nat) : Env := [(0, SV.v (Value.int IntKind.u64 p0_active)), (6, SV.v (Value.slice p6_x_a p6_x_n p6_x_c))]
def e5_1 (p0_active : Int) (p1_l_a : Option Addr) (p1_l_n : Nat) (p1_l_c : Nat) (p5_y_a : Option Addr) (p5_y_n : Nat) (p5_y_c : Nat) (p6_x_a : Option Addr) (p6_x_n : Nat) (p6_x_c : Nat) (p7_i : Int) : Env := [(0, SV.v (Value.int IntKind.u64 p0_active)), (1, SV.v (Value.slice p1_l_a p1_l_n p1_l_c)), (5, SV.v (Value.slice p5_y_a p5_y_n p5_y_c)), (6, SV.v (Value.slice p6_x_a p6_x_n p6_x_c)), (7, SV.v (Value.int IntKind.i64 p7_i))]
def k5_0 (R : Ending → World → Prop) : Cont := retK Tryd.prog Tryd.f5.results.toList R
def k5_1 (R : Ending → World → Prop) : Cont := blockK 0 [0, 6] (seqK (fun E w => cutB (findL M5.cuts (headReg c5_0)) Tryd.prog M5 c5_0 E w (retK Tryd.prog Tryd.f5.results.toList R) fun E => den Tryd.prog M5 c5_0 E w (retK Tryd.prog Tryd.f5.results.toList R)) (retK Tryd.prog Tryd.f5.results.toList R))
theorem b5 : Tryd.f5.body = some c5 := by kernel_rfl
theorem n5 : Tryd.f5.ntmps = M5.N := by kernel_rfl
theorem u5 {p0_active : Int} {p1_l_a : Option Addr} {p1_l_n : Nat} {p1_l_c : Nat} {w : World} {R : Ending → World → Prop} (h : den Tryd.prog M5 c5 (argE 0 [(Value.int IntKind.u64 p0_active), (Value.slice p1_l_a p1_l_n p1_l_c)]) w (retK Tryd.prog Tryd.f5.results.toList R)) : Calls Tryd.prog 5 #[(Value.int IntKind.u64 p0_active), (Value.slice p1_l_a p1_l_n p1_l_c)] w R := calls_den okProg Tryd.func5 b5 n5 (Nat.le_of_ble_eq_true rfl) h
theorem t5 (p0_active : Int) (p1_l_a : Option Addr) (p1_l_n : Nat) (p1_l_c : Nat) (w : World) (R : Ending → World → Prop) : den Tryd.prog M5 c5 (argE 0 [(Value.int IntKind.u64 p0_active), (Value.slice p1_l_a p1_l_n p1_l_c)]) w (retK Tryd.prog Tryd.f5.results.toList R) =
((decide ((↑p1_l_n : Int) > (100 : Int)) = true →
    Call Tryd.prog 8 [] w fun e w' =>
      ∃ b, e = Ending.returned (Value.bool b) ∧ R (Ending.returned (Value.bool b)) w') ∧
  (decide ((↑p1_l_n : Int) > (100 : Int)) = false →
    Call Tryd.prog 11 [Value.slice p1_l_a p1_l_n p1_l_c] w fun e w' =>
      ∃ p n c,
        e = Ending.returned (Value.slice p n c) ∧
          Call Tryd.prog 12 [Value.int IntKind.u64 p0_active, Value.slice p n c] w' fun e w' =>
            ∃ p_1 n_1 c_1,
              e = Ending.returned (Value.slice p_1 n_1 c_1) ∧
                Call Tryd.prog 14 [Value.slice p_1 n_1 c_1] w' fun e w' =>
                  ∃ p_2 n_2 c_2,
                    e = Ending.returned (Value.slice p_2 n_2 c_2) ∧
                      Call Tryd.prog 15 [Value.int IntKind.u64 p0_active, Value.slice p1_l_a p1_l_n p1_l_c]
                        w' fun e w' =>
                        ∃ p_3 n_3 c_3,
                          e = Ending.returned (Value.slice p_3 n_3 c_3) ∧
                            Call Tryd.prog 13 [Value.slice p_2 n_2 c_2, Value.slice p_3 n_3 c_3] w' fun e w' =>
                              ∃ b,
                                e = Ending.returned (Value.bool b) ∧
                                  ((!b) = true → R (Ending.returned (Value.bool false)) w') ∧
                                    ((!b) = false →
                                      Cut
                                        (WP Tryd.prog 57 (Code.loop c5_1)
                                          (e5_1 p0_active p1_l_a p1_l_n p1_l_c p n c p_1 n_1 c_1 (0 : Int)) w'
                                          (k5_1 R))))) := by kernel_rfl
theorem t5_0 (p0_active : Int) (p6_x_a : Option Addr) (p6_x_n : Nat) (p6_x_c : Nat) (w : World) (R : Ending → World → Prop) : den Tryd.prog M5 c5_0 (e5_0 p0_active p6_x_a p6_x_n p6_x_c) w (k5_0 R) =
(Call Tryd.prog 12 [Value.int IntKind.u64 p0_active, Value.slice p6_x_a p6_x_n p6_x_c] w fun e w' =>
  ∃ p n c,
    e = Ending.returned (Value.slice p n c) ∧
      (((↑n : Int) == (0 : Int)) = true →
          Call Tryd.prog 8 [] w' fun e w' =>
            ∃ b, e = Ending.returned (Value.bool b) ∧ R (Ending.returned (Value.bool b)) w') ∧
        (((↑n : Int) == (0 : Int)) = false → R (Ending.returned (Value.bool false)) w')) := by kernel_rfl
theorem t5_1 (p0_active : Int) (p1_l_a : Option Addr) (p1_l_n : Nat) (p1_l_c : Nat) (p5_y_a : Option Addr) (p5_y_n : Nat) (p5_y_c : Nat) (p6_x_a : Option Addr) (p6_x_n : Nat) (p6_x_c : Nat) (p7_i : Int) (w : World) (B5_1 : Env → World → Prop) (R : Ending → World → Prop) : den Tryd.prog M5 c5_1 (e5_1 p0_active p1_l_a p1_l_n p1_l_c p5_y_a p5_y_n p5_y_c p6_x_a p6_x_n p6_x_c p7_i) w (loopK B5_1 (k5_1 R)) =
((decide (p7_i < (↑p1_l_n : Int)) = true →
    (decide (p7_i < (↑p5_y_n : Int)) = true →
        ∀ (w' : World),
          World.heap w' = World.heap w →
            World.os w' = World.os w →
              World.tape w' = World.tape w →
                World.output w' = World.output w →
                  ((0 : Int) ≤ p7_i ∧ p7_i < (↑p5_y_n : Int)) ∧
                    ∃ a,
                      p5_y_a = some a ∧
                        ∃ n,
                          World.cell? w' (Addr.add (Addr.add a (Int.toNat p7_i * 4)) 0) =
                              some (Value.int IntKind.i64 n) ∧
                            ∃ n_1,
                              World.cell? w' (Addr.add (Addr.add a (Int.toNat p7_i * 4)) 1) =
                                  some (Value.int IntKind.u64 n_1) ∧
                                ∃ n_2,
                                  World.cell? w' (Addr.add (Addr.add a (Int.toNat p7_i * 4)) 2) =
                                      some (Value.int IntKind.i64 n_2) ∧
                                    ∃ b,
                                      World.cell? w' (Addr.add (Addr.add a (Int.toNat p7_i * 4)) 3) =
                                          some (Value.bool b) ∧
                                        ((0 : Int) ≤ p7_i ∧ p7_i < (↑p1_l_n : Int)) ∧
                                          ∃ a,
                                            p1_l_a = some a ∧
                                              ∃ n_3,
                                                World.cell? w'
                                                      (Addr.add (Addr.add a (Int.toNat p7_i * 4)) 0) =
                                                    some (Value.int IntKind.i64 n_3) ∧
                                                  ∃ n_4,
                                                    World.cell? w'
                                                          (Addr.add (Addr.add a (Int.toNat p7_i * 4))
                                                            1) =
                                                        some (Value.int IntKind.u64 n_4) ∧
                                                      ∃ n_5,
                                                        World.cell? w'
                                                              (Addr.add (Addr.add a (Int.toNat p7_i * 4))
                                                                2) =
                                                            some (Value.int IntKind.i64 n_5) ∧
                                                          ∃ b_1,
                                                            World.cell? w'
                                                                  (Addr.add (Addr.add a (Int.toNat p7_i * 4))
                                                                    3) =
                                                                some (Value.bool b_1) ∧
                                                              Call Tryd.prog 16
                                                                [Value.int IntKind.u64 p0_active,
                                                                  Value.agg
                                                                    #[Value.int IntKind.i64 n,
                                                                      Value.int IntKind.u64 n_1,
                                                                      Value.int IntKind.i64 n_2, Value.bool b]]
                                                                w' fun e w' =>
                                                                ∃ b,
                                                                  e = Ending.returned (Value.bool b) ∧
                                                                    (∀ (j : Nat) (v : Value),
                                                                        [Value.int IntKind.i64 n_3,
                                                                                Value.int IntKind.u64 n_4,
                                                                                Value.int IntKind.i64 n_5,
                                                                                Value.bool b_1][j]? =
                                                                            some v →
                                                                          World.cell? w'
                                                                              (Addr.add
                                                                                (Addr.add a
                                                                                  (Int.toNat p7_i * 4))
                                                                                j) =
                                                                            some v) ∧
                                                                      Call Tryd.prog 17
                                                                        [Value.int IntKind.u64 p0_active,
                                                                          Value.agg
                                                                            #[Value.int IntKind.i64 n_3,
                                                                              Value.int IntKind.u64 n_4,
                                                                              Value.int IntKind.i64 n_5,
                                                                              Value.bool b_1]]
                                                                        w' fun e w' =>
                                                                        ∃ b_2,
                                                                          e = Ending.returned (Value.bool b_2) ∧
                                                                            ((!b == b_2) = true →
                                                                                R (Ending.returned (Value.bool false))
                                                                                  w') ∧
                                                                              ((!b == b_2) = false →
                                                                                B5_1
                                                                                  [(0,
                                                                                      SV.v
                                                                                        (Value.int IntKind.u64
                                                                                          p0_active)),
                                                                                    (1,
                                                                                      SV.v
                                                                                        (Value.slice p1_l_a p1_l_n
                                                                                          p1_l_c)),
                                                                                    (5,
                                                                                      SV.v
                                                                                        (Value.slice p5_y_a p5_y_n
                                                                                          p5_y_c)),
                                                                                    (6,
                                                                                      SV.v
                                                                                        (Value.slice p6_x_a p6_x_n
                                                                                          p6_x_c)),
                                                                                    (7,
                                                                                      SV.v
                                                                                        (Value.int IntKind.i64
                                                                                          (IntKind.wrap IntKind.i64
                                                                                            (p7_i + (1 : Int)))))]
                                                                                  w')) ∧
      (decide (p7_i < (↑p5_y_n : Int)) = false →
        CutD Tryd.prog M5 c5_0 (e5_0 p0_active p6_x_a p6_x_n p6_x_c) w (k5_0 R))) ∧
  (decide (p7_i < (↑p1_l_n : Int)) = false →
    CutD Tryd.prog M5 c5_0 (e5_0 p0_active p6_x_a p6_x_n p6_x_c) w (k5_0 R))) := by kernel_rfl
/-! davit/affin.Choose -/
def M6 : Mt := { N := 36, keep := [(0, [0, 1, 2]), (1, [0, 1, 2, 14]), (2, [6, 7, 8]), (3, [1, 2, 9]), (4, [1, 2, 9, 10]), (5, [1, 2, 9, 10, 20]), (6, [2, 9, 10]), (7, [2, 9, 10, 24]), (8, [6, 7, 8]), (9, [10, 11, 12]), (10, [6, 7, 8])], ords := [], bk := [], cuts := [(7, [2, 9, 10])], lk := [] }
noncomputable def c6 : Code := bodyOf Tryd.f6
noncomputable def c6_0 : Code := c6.sr.sr.sr.sr.sr
def e6_0 (p2_near : Int) (p9_from : Int) (p10_forced : Bool) : Env := [(2, SV.v (Value.int IntKind.i64 p2_near)), (9, SV.v (Value.int IntKind.u64 p9_from)), (10, SV.v (Value.bool p10_forced))]
def k6_0 (R : Ending → World → Prop) : Cont := retK Tryd.prog Tryd.f6.results.toList R
theorem b6 : Tryd.f6.body = some c6 := by kernel_rfl
theorem n6 : Tryd.f6.ntmps = M6.N := by kernel_rfl
theorem u6 {p0_want : Int} {p1_active : Int} {p2_near : Int} {w : World} {R : Ending → World → Prop} (h : den Tryd.prog M6 c6 (argE 0 [(Value.int IntKind.u64 p0_want), (Value.int IntKind.u64 p1_active), (Value.int IntKind.i64 p2_near)]) w (retK Tryd.prog Tryd.f6.results.toList R)) : Calls Tryd.prog 6 #[(Value.int IntKind.u64 p0_want), (Value.int IntKind.u64 p1_active), (Value.int IntKind.i64 p2_near)] w R := calls_den okProg Tryd.func6 b6 n6 (Nat.le_of_ble_eq_true rfl) h
theorem t6 (p0_want : Int) (p1_active : Int) (p2_near : Int) (w : World) (R : Ending → World → Prop) : den Tryd.prog M6 c6 (argE 0 [(Value.int IntKind.u64 p0_want), (Value.int IntKind.u64 p1_active), (Value.int IntKind.i64 p2_near)]) w (retK Tryd.prog Tryd.f6.results.toList R) =
(((p1_active == (0 : Int)) = true →
    R
      (Ending.returned
        (Value.tuple #[Value.int IntKind.i64 0, Value.bool false, Value.int IntKind.i64 12]))
      w) ∧
  ((p1_active == (0 : Int)) = false →
    Call Tryd.prog 18 [Value.int IntKind.u64 p0_want, Value.int IntKind.u64 p1_active] w fun e w' =>
      ∃ n,
        e = Ending.returned (Value.int IntKind.u64 n) ∧
          ((n == (0 : Int)) = true → CutD Tryd.prog M6 c6_0 (e6_0 p2_near p1_active (n == (0 : Int))) w' (k6_0 R)) ∧
            ((n == (0 : Int)) = false → CutD Tryd.prog M6 c6_0 (e6_0 p2_near n (n == (0 : Int))) w' (k6_0 R)))) := by kernel_rfl
theorem t6_0 (p2_near : Int) (p9_from : Int) (p10_forced : Bool) (w : World) (R : Ending → World → Prop) : den Tryd.prog M6 c6_0 (e6_0 p2_near p9_from p10_forced) w (k6_0 R) =
(Call Tryd.prog 19 [Value.int IntKind.u64 p9_from, Value.int IntKind.i64 p2_near] w fun e w' =>
  ∃ b,
    e = Ending.returned (Value.bool b) ∧
      (b = true →
          R
            (Ending.returned
              (Value.tuple #[Value.int IntKind.i64 p2_near, Value.bool p10_forced, Value.int IntKind.i64 0]))
            w') ∧
        (b = false →
          Call Tryd.prog 20 [Value.int IntKind.u64 p9_from, Value.int IntKind.i64 p2_near] w' fun e w' =>
            ∃ n n_1,
              e = Ending.returned (Value.tuple #[Value.int IntKind.i64 n, Value.int IntKind.i64 n_1]) ∧
                R
                  (Ending.returned
                    (Value.tuple #[Value.int IntKind.i64 n, Value.bool p10_forced, Value.int IntKind.i64 n_1]))
                  w')) := by kernel_rfl
/-! davit/davitref12.Choose -/
def M7 : Mt := { N := 37, keep := [(0, [0, 1, 2]), (1, [0, 1, 2, 14]), (2, [6, 7, 8]), (3, [1, 2, 9]), (4, [1, 2, 9, 10]), (5, [1, 2, 9, 10, 20]), (6, [2, 9, 10]), (7, [2, 9, 10, 24]), (8, [6, 7, 8]), (9, [9, 11]), (10, [6, 7, 8])], ords := [], bk := [], cuts := [(7, [2, 9, 10])], lk := [] }
noncomputable def c7 : Code := bodyOf Tryd.f7
noncomputable def c7_0 : Code := c7.sr.sr.sr.sr.sr
def e7_0 (p2_near : Int) (p9_both : Int) (p10_from : Int) : Env := [(2, SV.v (Value.int IntKind.i64 p2_near)), (9, SV.v (Value.int IntKind.u64 p9_both)), (10, SV.v (Value.int IntKind.u64 p10_from))]
def k7_0 (R : Ending → World → Prop) : Cont := retK Tryd.prog Tryd.f7.results.toList R
theorem b7 : Tryd.f7.body = some c7 := by kernel_rfl
theorem n7 : Tryd.f7.ntmps = M7.N := by kernel_rfl
theorem u7 {p0_want : Int} {p1_active : Int} {p2_near : Int} {w : World} {R : Ending → World → Prop} (h : den Tryd.prog M7 c7 (argE 0 [(Value.int IntKind.u64 p0_want), (Value.int IntKind.u64 p1_active), (Value.int IntKind.i64 p2_near)]) w (retK Tryd.prog Tryd.f7.results.toList R)) : Calls Tryd.prog 7 #[(Value.int IntKind.u64 p0_want), (Value.int IntKind.u64 p1_active), (Value.int IntKind.i64 p2_near)] w R := calls_den okProg Tryd.func7 b7 n7 (Nat.le_of_ble_eq_true rfl) h
theorem t7 (p0_want : Int) (p1_active : Int) (p2_near : Int) (w : World) (R : Ending → World → Prop) : den Tryd.prog M7 c7 (argE 0 [(Value.int IntKind.u64 p0_want), (Value.int IntKind.u64 p1_active), (Value.int IntKind.i64 p2_near)]) w (retK Tryd.prog Tryd.f7.results.toList R) =
(((p1_active == (0 : Int)) = true →
    R
      (Ending.returned
        (Value.tuple #[Value.int IntKind.i64 0, Value.bool false, Value.int IntKind.i64 12]))
      w) ∧
  ((p1_active == (0 : Int)) = false →
    Call Tryd.prog 10 [Value.int IntKind.u64 p0_want, Value.int IntKind.u64 p1_active] w fun e w' =>
      ∃ n,
        e = Ending.returned (Value.int IntKind.u64 n) ∧
          ((n == (0 : Int)) = true → CutD Tryd.prog M7 c7_0 (e7_0 p2_near n p1_active) w' (k7_0 R)) ∧
            ((n == (0 : Int)) = false → CutD Tryd.prog M7 c7_0 (e7_0 p2_near n n) w' (k7_0 R)))) := by kernel_rfl
theorem t7_0 (p2_near : Int) (p9_both : Int) (p10_from : Int) (w : World) (R : Ending → World → Prop) : den Tryd.prog M7 c7_0 (e7_0 p2_near p9_both p10_from) w (k7_0 R) =
(Call Tryd.prog 9 [Value.int IntKind.u64 p10_from, Value.int IntKind.i64 p2_near] w fun e w' =>
  ∃ b,
    e = Ending.returned (Value.bool b) ∧
      (b = true →
          R
            (Ending.returned
              (Value.tuple
                #[Value.int IntKind.i64 p2_near, Value.bool (p9_both == (0 : Int)), Value.int IntKind.i64 0]))
            w') ∧
        (b = false →
          Call Tryd.prog 21 [Value.int IntKind.u64 p10_from, Value.int IntKind.i64 p2_near] w' fun e w' =>
            ∃ n n_1,
              e = Ending.returned (Value.tuple #[Value.int IntKind.i64 n, Value.int IntKind.i64 n_1]) ∧
                R
                  (Ending.returned
                    (Value.tuple
                      #[Value.int IntKind.i64 n, Value.bool (p9_both == (0 : Int)), Value.int IntKind.i64 0]))
                  w')) := by kernel_rfl
/-! davit/davitlaw12.known -/
def M8 : Mt := { N := 50, keep := [(0, []), (1, [1, 2, 3]), (2, [1, 2, 3, 4, 5, 6]), (3, [1, 2, 3, 4, 5, 6, 9]), (4, [0])], ords := [], bk := [], cuts := [], lk := [] }
noncomputable def c8 : Code := bodyOf Tryd.f8
theorem b8 : Tryd.f8.body = some c8 := by kernel_rfl
theorem n8 : Tryd.f8.ntmps = M8.N := by kernel_rfl
theorem u8  {w : World} {R : Ending → World → Prop} (h : den Tryd.prog M8 c8 (argE 0 []) w (retK Tryd.prog Tryd.f8.results.toList R)) : Calls Tryd.prog 8 #[] w R := calls_den okProg Tryd.func8 b8 n8 (Nat.le_of_ble_eq_true rfl) h
theorem t8  (w : World) (R : Ending → World → Prop) : den Tryd.prog M8 c8 (argE 0 []) w (retK Tryd.prog Tryd.f8.results.toList R) =
(Call Tryd.prog 6
  [Value.int IntKind.u64 10, Value.int IntKind.u64 7, Value.int IntKind.i64 3] w fun e w' =>
  ∃ n b n_1,
    e = Ending.returned (Value.tuple #[Value.int IntKind.i64 n, Value.bool b, Value.int IntKind.i64 n_1]) ∧
      Call Tryd.prog 6
        [Value.int IntKind.u64 8, Value.int IntKind.u64 3, Value.int IntKind.i64 3] w'
        fun e w' =>
        ∃ n_2 b_1 n_3,
          e = Ending.returned (Value.tuple #[Value.int IntKind.i64 n_2, Value.bool b_1, Value.int IntKind.i64 n_3]) ∧
            Call Tryd.prog 6
              [Value.int IntKind.u64 1, Value.int IntKind.u64 0, Value.int IntKind.i64 0] w'
              fun e w' =>
              ∃ n_4 b_2 n_5,
                e =
                    Ending.returned
                      (Value.tuple #[Value.int IntKind.i64 n_4, Value.bool b_2, Value.int IntKind.i64 n_5]) ∧
                  ((n == (1 : Int)) = true →
                      ((!b) = true →
                          ((n_1 == (0 : Int)) = true →
                              ((n_2 == (0 : Int)) = true →
                                  (b_1 = true →
                                      ((n_3 == (0 : Int)) = true →
                                          R (Ending.returned (Value.bool (n_5 == (12 : Int)))) w') ∧
                                        ((n_3 == (0 : Int)) = false → R (Ending.returned (Value.bool false)) w')) ∧
                                    (b_1 = false → R (Ending.returned (Value.bool false)) w')) ∧
                                ((n_2 == (0 : Int)) = false → R (Ending.returned (Value.bool false)) w')) ∧
                            ((n_1 == (0 : Int)) = false → R (Ending.returned (Value.bool false)) w')) ∧
                        ((!b) = false → R (Ending.returned (Value.bool false)) w')) ∧
                    ((n == (1 : Int)) = false → R (Ending.returned (Value.bool false)) w')) := by kernel_rfl
/-! davit/davitref01.Has -/
def M9 : Mt := { N := 17, keep := [(0, [0, 1]), (1, [0, 1, 10]), (2, [4]), (3, [4])], ords := [], bk := [], cuts := [], lk := [] }
noncomputable def c9 : Code := bodyOf Tryd.f9
theorem b9 : Tryd.f9.body = some c9 := by kernel_rfl
theorem n9 : Tryd.f9.ntmps = M9.N := by kernel_rfl
theorem u9 {p0_m : Int} {p1_cpu : Int} {w : World} {R : Ending → World → Prop} (h : den Tryd.prog M9 c9 (argE 0 [(Value.int IntKind.u64 p0_m), (Value.int IntKind.i64 p1_cpu)]) w (retK Tryd.prog Tryd.f9.results.toList R)) : Calls Tryd.prog 9 #[(Value.int IntKind.u64 p0_m), (Value.int IntKind.i64 p1_cpu)] w R := calls_den okProg Tryd.func9 b9 n9 (Nat.le_of_ble_eq_true rfl) h
theorem t9 (p0_m : Int) (p1_cpu : Int) (w : World) (R : Ending → World → Prop) : den Tryd.prog M9 c9 (argE 0 [(Value.int IntKind.u64 p0_m), (Value.int IntKind.i64 p1_cpu)]) w (retK Tryd.prog Tryd.f9.results.toList R) =
((decide (p1_cpu < (0 : Int)) = false →
    (decide (p1_cpu > (63 : Int)) = true → R (Ending.returned (Value.bool false)) w) ∧
      (decide (p1_cpu > (63 : Int)) = false →
        (0 : Int) ≤ IntKind.wrap IntKind.u64 p1_cpu ∧
          (2 : Int) ≠ (0 : Int) ∧
            R
              (Ending.returned
                (Value.bool
                  (Int.tmod (shrOp IntKind.u64 p0_m (IntKind.wrap IntKind.u64 p1_cpu)) (2 : Int) == (1 : Int))))
              w)) ∧
  (decide (p1_cpu < (0 : Int)) = true → R (Ending.returned (Value.bool false)) w)) := by kernel_rfl
/-! davit/davitref01.And -/
def M10 : Mt := { N := 25, keep := [(0, [0, 1]), (1, [0, 1, 5]), (2, [0, 1, 5, 6]), (3, [0, 1, 5, 6, 8]), (4, [0, 1, 5, 6]), (5, [0, 1, 5, 6, 18]), (6, [0, 1, 5, 6]), (7, [4])], ords := [], bk := [(0, [5]), (1, [0, 1, 5, 6])], cuts := [(7, [5])], lk := [(3, [0, 1, 5, 6])] }
noncomputable def c10 : Code := bodyOf Tryd.f10
noncomputable def c10_0 : Code := c10.sr.sr.sr
noncomputable def c10_1 : Code := c10.sr.sr.sl.sr.sl.sl
def e10_0 (p5_l_a : Option Addr) (p5_l_n : Nat) (p5_l_c : Nat) : Env := [(5, SV.v (Value.slice p5_l_a p5_l_n p5_l_c))]
def e10_1 (p0_m : Int) (p1_o : Int) (p5_l_a : Option Addr) (p5_l_n : Nat) (p5_l_c : Nat) (p6_i : Int) : Env := [(0, SV.v (Value.int IntKind.u64 p0_m)), (1, SV.v (Value.int IntKind.u64 p1_o)), (5, SV.v (Value.slice p5_l_a p5_l_n p5_l_c)), (6, SV.v (Value.int IntKind.i64 p6_i))]
def k10_0 (R : Ending → World → Prop) : Cont := retK Tryd.prog Tryd.f10.results.toList R
def k10_1 (R : Ending → World → Prop) : Cont := blockK 0 [5] (seqK (fun E w => cutB (findL M10.cuts (headReg c10_0)) Tryd.prog M10 c10_0 E w (retK Tryd.prog Tryd.f10.results.toList R) fun E => den Tryd.prog M10 c10_0 E w (retK Tryd.prog Tryd.f10.results.toList R)) (retK Tryd.prog Tryd.f10.results.toList R))
theorem b10 : Tryd.f10.body = some c10 := by kernel_rfl
theorem n10 : Tryd.f10.ntmps = M10.N := by kernel_rfl
theorem u10 {p0_m : Int} {p1_o : Int} {w : World} {R : Ending → World → Prop} (h : den Tryd.prog M10 c10 (argE 0 [(Value.int IntKind.u64 p0_m), (Value.int IntKind.u64 p1_o)]) w (retK Tryd.prog Tryd.f10.results.toList R)) : Calls Tryd.prog 10 #[(Value.int IntKind.u64 p0_m), (Value.int IntKind.u64 p1_o)] w R := calls_den okProg Tryd.func10 b10 n10 (Nat.le_of_ble_eq_true rfl) h
theorem t10 (p0_m : Int) (p1_o : Int) (w : World) (R : Ending → World → Prop) : den Tryd.prog M10 c10 (argE 0 [(Value.int IntKind.u64 p0_m), (Value.int IntKind.u64 p1_o)]) w (retK Tryd.prog Tryd.f10.results.toList R) =
(Cut (WP Tryd.prog 25 (Code.loop c10_1) (e10_1 p0_m p1_o none 0 0 (0 : Int)) w (k10_1 R))) := by kernel_rfl
theorem t10_0 (p5_l_a : Option Addr) (p5_l_n : Nat) (p5_l_c : Nat) (w : World) (R : Ending → World → Prop) : den Tryd.prog M10 c10_0 (e10_0 p5_l_a p5_l_n p5_l_c) w (k10_0 R) =
(Call Tryd.prog 22 [Value.slice p5_l_a p5_l_n p5_l_c] w fun e w' =>
  ∃ n, e = Ending.returned (Value.int IntKind.u64 n) ∧ R (Ending.returned (Value.int IntKind.u64 n)) w') := by kernel_rfl
theorem t10_1 (p0_m : Int) (p1_o : Int) (p5_l_a : Option Addr) (p5_l_n : Nat) (p5_l_c : Nat) (p6_i : Int) (w : World) (B10_1 : Env → World → Prop) (R : Ending → World → Prop) : den Tryd.prog M10 c10_1 (e10_1 p0_m p1_o p5_l_a p5_l_n p5_l_c p6_i) w (loopK B10_1 (k10_1 R)) =
((decide (p6_i < (64 : Int)) = true →
    Call Tryd.prog 9 [Value.int IntKind.u64 p0_m, Value.int IntKind.i64 p6_i] w fun e w' =>
      ∃ b,
        e = Ending.returned (Value.bool b) ∧
          (b = true →
              Call Tryd.prog 9 [Value.int IntKind.u64 p1_o, Value.int IntKind.i64 p6_i] w' fun e w' =>
                ∃ b,
                  e = Ending.returned (Value.bool b) ∧
                    (b = true →
                        New w' [Value.int IntKind.i64 p6_i] 3 fun p w' =>
                          ∃ p_1 n c w'_1,
                            Sem.run Tryd.prog
                                  (Builtin.append_ #[52, 52] 52
                                    #[Value.slice p5_l_a p5_l_n p5_l_c, Value.slice (some p) 1 1])
                                  w' =
                                Result.ok (Value.slice p_1 n c) w'_1 ∧
                              B10_1
                                [(0, SV.v (Value.int IntKind.u64 p0_m)),
                                  (1, SV.v (Value.int IntKind.u64 p1_o)),
                                  (5, SV.v (Value.slice p_1 n c)),
                                  (6,
                                    SV.v (Value.int IntKind.i64 (IntKind.wrap IntKind.i64 (p6_i + (1 : Int)))))]
                                w'_1) ∧
                      (b = false →
                        B10_1
                          [(0, SV.v (Value.int IntKind.u64 p0_m)),
                            (1, SV.v (Value.int IntKind.u64 p1_o)),
                            (5, SV.v (Value.slice p5_l_a p5_l_n p5_l_c)),
                            (6, SV.v (Value.int IntKind.i64 (IntKind.wrap IntKind.i64 (p6_i + (1 : Int)))))]
                          w')) ∧
            (b = false →
              B10_1
                [(0, SV.v (Value.int IntKind.u64 p0_m)), (1, SV.v (Value.int IntKind.u64 p1_o)),
                  (5, SV.v (Value.slice p5_l_a p5_l_n p5_l_c)),
                  (6, SV.v (Value.int IntKind.i64 (IntKind.wrap IntKind.i64 (p6_i + (1 : Int)))))]
                w')) ∧
  (decide (p6_i < (64 : Int)) = false → CutD Tryd.prog M10 c10_0 (e10_0 p5_l_a p5_l_n p5_l_c) w (k10_0 R))) := by kernel_rfl
/-! davit/davitlaw12.given -/
def M11 : Mt := { N := 36, keep := [(0, [0]), (1, [0, 3]), (2, [0, 3, 4]), (3, [0, 3, 4, 8]), (4, [0, 3, 4]), (5, [0, 3, 4]), (6, [2])], ords := [(5, [0, 1, 2, 3, 4, 5, 6, 7, 8, 9, 10, 11, 12, 13, 14, 15, 16, 17, 18, 19, 20, 21, 22, 23, 24])], bk := [(0, [3]), (1, [0, 3, 4])], cuts := [], lk := [(3, [0, 3, 4])] }
noncomputable def c11 : Code := bodyOf Tryd.f11
noncomputable def c11_0 : Code := c11.sr.sr.sr
noncomputable def c11_1 : Code := c11.sr.sr.sl.sr.sl.sl
def e11_1 (p0_l_a : Option Addr) (p0_l_n : Nat) (p0_l_c : Nat) (p3_out_a : Option Addr) (p3_out_n : Nat) (p3_out_c : Nat) (p4_i : Int) : Env := [(0, SV.v (Value.slice p0_l_a p0_l_n p0_l_c)), (3, SV.v (Value.slice p3_out_a p3_out_n p3_out_c)), (4, SV.v (Value.int IntKind.i64 p4_i))]
def k11_1 (R : Ending → World → Prop) : Cont := blockK 0 [3] (seqK (fun E w => cutB (findL M11.cuts (headReg c11_0)) Tryd.prog M11 c11_0 E w (retK Tryd.prog Tryd.f11.results.toList R) fun E => den Tryd.prog M11 c11_0 E w (retK Tryd.prog Tryd.f11.results.toList R)) (retK Tryd.prog Tryd.f11.results.toList R))
theorem b11 : Tryd.f11.body = some c11 := by kernel_rfl
theorem n11 : Tryd.f11.ntmps = M11.N := by kernel_rfl
theorem u11 {p0_l_a : Option Addr} {p0_l_n : Nat} {p0_l_c : Nat} {w : World} {R : Ending → World → Prop} (h : den Tryd.prog M11 c11 (argE 0 [(Value.slice p0_l_a p0_l_n p0_l_c)]) w (retK Tryd.prog Tryd.f11.results.toList R)) : Calls Tryd.prog 11 #[(Value.slice p0_l_a p0_l_n p0_l_c)] w R := calls_den okProg Tryd.func11 b11 n11 (Nat.le_of_ble_eq_true rfl) h
theorem t11 (p0_l_a : Option Addr) (p0_l_n : Nat) (p0_l_c : Nat) (w : World) (R : Ending → World → Prop) : den Tryd.prog M11 c11 (argE 0 [(Value.slice p0_l_a p0_l_n p0_l_c)]) w (retK Tryd.prog Tryd.f11.results.toList R) =
(Cut
  (WP Tryd.prog 36 (Code.loop c11_1) (e11_1 p0_l_a p0_l_n p0_l_c none 0 0 (0 : Int)) w
    (k11_1 R))) := by kernel_rfl
theorem t11_1 (p0_l_a : Option Addr) (p0_l_n : Nat) (p0_l_c : Nat) (p3_out_a : Option Addr) (p3_out_n : Nat) (p3_out_c : Nat) (p4_i : Int) (w : World) (B11_1 : Env → World → Prop) (R : Ending → World → Prop) : den Tryd.prog M11 c11_1 (e11_1 p0_l_a p0_l_n p0_l_c p3_out_a p3_out_n p3_out_c p4_i) w (loopK B11_1 (k11_1 R)) =
((decide (p4_i < (↑p0_l_n : Int)) = true →
    ∀ (w' : World),
      World.heap w' = World.heap w →
        World.os w' = World.os w →
          World.tape w' = World.tape w →
            World.output w' = World.output w →
              ((0 : Int) ≤ p4_i ∧ p4_i < (↑p0_l_n : Int)) ∧
                ∃ a,
                  p0_l_a = some a ∧
                    ∃ n,
                      World.cell? w' (Addr.add (Addr.add a (Int.toNat p4_i * 4)) 0) =
                          some (Value.int IntKind.i64 n) ∧
                        ((0 : Int) ≤ p4_i ∧ p4_i < (↑p0_l_n : Int)) ∧
                          ∃ a,
                            p0_l_a = some a ∧
                              ∃ n_1,
                                World.cell? w' (Addr.add (Addr.add a (Int.toNat p4_i * 4)) 1) =
                                    some (Value.int IntKind.u64 n_1) ∧
                                  ((0 : Int) ≤ p4_i ∧ p4_i < (↑p0_l_n : Int)) ∧
                                    ∃ a,
                                      p0_l_a = some a ∧
                                        ∃ n_2,
                                          World.cell? w'
                                                (Addr.add (Addr.add a (Int.toNat p4_i * 4)) 2) =
                                              some (Value.int IntKind.i64 n_2) ∧
                                            ((0 : Int) ≤ p4_i ∧ p4_i < (↑p0_l_n : Int)) ∧
                                              ∃ a,
                                                p0_l_a = some a ∧
                                                  ∃ b,
                                                    World.cell? w'
                                                          (Addr.add (Addr.add a (Int.toNat p4_i * 4))
                                                            3) =
                                                        some (Value.bool b) ∧
                                                      New w'
                                                        [Value.int IntKind.i64 n, Value.int IntKind.u64 n_1,
                                                          Value.int IntKind.i64 n_2, Value.bool b]
                                                        41 fun p w' =>
                                                        ∃ p_1 n c w'_1,
                                                          Sem.run Tryd.prog
                                                                (Builtin.append_ #[33, 33] 33
                                                                  #[Value.slice p3_out_a p3_out_n p3_out_c,
                                                                    Value.slice (some p) 1 1])
                                                                w' =
                                                              Result.ok (Value.slice p_1 n c) w'_1 ∧
                                                            B11_1
                                                              [(0, SV.v (Value.slice p0_l_a p0_l_n p0_l_c)),
                                                                (3, SV.v (Value.slice p_1 n c)),
                                                                (4,
                                                                  SV.v
                                                                    (Value.int IntKind.i64
                                                                      (IntKind.wrap IntKind.i64 (p4_i + (1 : Int)))))]
                                                              w'_1) ∧
  (decide (p4_i < (↑p0_l_n : Int)) = false → R (Ending.returned (Value.slice p3_out_a p3_out_n p3_out_c)) w)) := by kernel_rfl
/-! davit/affin.Repair -/
def M12 : Mt := { N := 40, keep := [(0, [0, 1]), (1, [0, 1, 5]), (2, [0, 5, 8, 9, 10]), (3, [0, 5, 8, 9, 10, 11]), (4, [0, 5, 7, 8, 9, 10]), (5, [0, 5, 7, 8, 9, 10, 21]), (6, [0, 5, 7, 8, 9, 10]), (7, [0, 5, 8, 9, 10]), (8, [0, 5, 8, 9, 10]), (9, [4])], ords := [], bk := [(0, [5]), (1, [0, 5, 8, 9, 10])], cuts := [], lk := [(3, [0, 5, 8, 9, 10])] }
noncomputable def c12 : Code := bodyOf Tryd.f12
noncomputable def c12_0 : Code := c12.sr.sr.sr
noncomputable def c12_1 : Code := c12.sr.sr.sl.sr.sl.sl
def e12_1 (p0_active : Int) (p5_out_a : Option Addr) (p5_out_n : Nat) (p5_out_c : Nat) (p8_t_a : Option Addr) (p8_t_n : Nat) (p8_t_c : Nat) (p9_t : Int) (p10_t : Int) : Env := [(0, SV.v (Value.int IntKind.u64 p0_active)), (5, SV.v (Value.slice p5_out_a p5_out_n p5_out_c)), (8, SV.v (Value.slice p8_t_a p8_t_n p8_t_c)), (9, SV.v (Value.int IntKind.i64 p9_t)), (10, SV.v (Value.int IntKind.i64 p10_t))]
def k12_1 (R : Ending → World → Prop) : Cont := blockK 0 [5] (seqK (fun E w => cutB (findL M12.cuts (headReg c12_0)) Tryd.prog M12 c12_0 E w (retK Tryd.prog Tryd.f12.results.toList R) fun E => den Tryd.prog M12 c12_0 E w (retK Tryd.prog Tryd.f12.results.toList R)) (retK Tryd.prog Tryd.f12.results.toList R))
theorem b12 : Tryd.f12.body = some c12 := by kernel_rfl
theorem n12 : Tryd.f12.ntmps = M12.N := by kernel_rfl
theorem u12 {p0_active : Int} {p1_l_a : Option Addr} {p1_l_n : Nat} {p1_l_c : Nat} {w : World} {R : Ending → World → Prop} (h : den Tryd.prog M12 c12 (argE 0 [(Value.int IntKind.u64 p0_active), (Value.slice p1_l_a p1_l_n p1_l_c)]) w (retK Tryd.prog Tryd.f12.results.toList R)) : Calls Tryd.prog 12 #[(Value.int IntKind.u64 p0_active), (Value.slice p1_l_a p1_l_n p1_l_c)] w R := calls_den okProg Tryd.func12 b12 n12 (Nat.le_of_ble_eq_true rfl) h
theorem t12 (p0_active : Int) (p1_l_a : Option Addr) (p1_l_n : Nat) (p1_l_c : Nat) (w : World) (R : Ending → World → Prop) : den Tryd.prog M12 c12 (argE 0 [(Value.int IntKind.u64 p0_active), (Value.slice p1_l_a p1_l_n p1_l_c)]) w (retK Tryd.prog Tryd.f12.results.toList R) =
(Cut
  (WP Tryd.prog 40 (Code.loop c12_1)
    (e12_1 p0_active none 0 0 p1_l_a p1_l_n p1_l_c (↑p1_l_n : Int) (0 : Int)) w (k12_1 R))) := by kernel_rfl
theorem t12_1 (p0_active : Int) (p5_out_a : Option Addr) (p5_out_n : Nat) (p5_out_c : Nat) (p8_t_a : Option Addr) (p8_t_n : Nat) (p8_t_c : Nat) (p9_t : Int) (p10_t : Int) (w : World) (B12_1 : Env → World → Prop) (R : Ending → World → Prop) : den Tryd.prog M12 c12_1 (e12_1 p0_active p5_out_a p5_out_n p5_out_c p8_t_a p8_t_n p8_t_c p9_t p10_t) w (loopK B12_1 (k12_1 R)) =
((decide (p10_t < p9_t) = true →
    ((0 : Int) ≤ p10_t ∧ p10_t < (↑p8_t_n : Int)) ∧
      ∃ a,
        p8_t_a = some a ∧
          ∃ n,
            World.cell? w (Addr.add (Addr.add a (Int.toNat p10_t * 4)) 0) =
                some (Value.int IntKind.i64 n) ∧
              ∃ n_1,
                World.cell? w (Addr.add (Addr.add a (Int.toNat p10_t * 4)) 1) =
                    some (Value.int IntKind.u64 n_1) ∧
                  ∃ n_2,
                    World.cell? w (Addr.add (Addr.add a (Int.toNat p10_t * 4)) 2) =
                        some (Value.int IntKind.i64 n_2) ∧
                      ∃ b,
                        World.cell? w (Addr.add (Addr.add a (Int.toNat p10_t * 4)) 3) =
                            some (Value.bool b) ∧
                          New w
                            [Value.int IntKind.i64 0, Value.int IntKind.u64 0,
                              Value.int IntKind.i64 0, Value.bool false]
                            41 fun p w' =>
                            Wr w' p
                              [Value.int IntKind.i64 n, Value.int IntKind.u64 n_1, Value.int IntKind.i64 n_2,
                                Value.bool b]
                              fun w' =>
                              ((p0_active == (0 : Int)) = false →
                                  ∃ n,
                                    World.cell? w' (Addr.add p 0) = some (Value.int IntKind.i64 n) ∧
                                      ∃ n_3,
                                        World.cell? w' (Addr.add p 1) = some (Value.int IntKind.u64 n_3) ∧
                                          ∃ n_4,
                                            World.cell? w' (Addr.add p 2) = some (Value.int IntKind.i64 n_4) ∧
                                              ∃ b,
                                                World.cell? w' (Addr.add p 3) = some (Value.bool b) ∧
                                                  Call Tryd.prog 16
                                                    [Value.int IntKind.u64 p0_active,
                                                      Value.agg
                                                        #[Value.int IntKind.i64 n, Value.int IntKind.u64 n_3,
                                                          Value.int IntKind.i64 n_4, Value.bool b]]
                                                    w' fun e w' =>
                                                    ∃ b,
                                                      e = Ending.returned (Value.bool b) ∧
                                                        ((!b) = true →
                                                            B12_1
                                                              [(0, SV.v (Value.int IntKind.u64 p0_active)),
                                                                (5,
                                                                  SV.v (Value.slice p5_out_a p5_out_n p5_out_c)),
                                                                (8, SV.v (Value.slice p8_t_a p8_t_n p8_t_c)),
                                                                (9, SV.v (Value.int IntKind.i64 p9_t)),
                                                                (10,
                                                                  SV.v
                                                                    (Value.int IntKind.i64
                                                                      (IntKind.wrap IntKind.i64 (p10_t + (1 : Int)))))]
                                                              w') ∧
                                                          ((!b) = false →
                                                            ∃ n,
                                                              World.cell? w' (Addr.add p 1) =
                                                                  some (Value.int IntKind.u64 n) ∧
                                                                ∃ n_5,
                                                                  World.cell? w' (Addr.add p 2) =
                                                                      some (Value.int IntKind.i64 n_5) ∧
                                                                    Call Tryd.prog 6
                                                                      [Value.int IntKind.u64 n,
                                                                        Value.int IntKind.u64 p0_active,
                                                                        Value.int IntKind.i64 n_5]
                                                                      w' fun e w' =>
                                                                      ∃ n b n_6,
                                                                        e =
                                                                            Ending.returned
                                                                              (Value.tuple
                                                                                #[Value.int IntKind.i64 n, Value.bool b,
                                                                                  Value.int IntKind.i64 n_6]) ∧
                                                                          Wr w' (Addr.add p 2)
                                                                            [Value.int IntKind.i64 n] fun w' =>
                                                                            Wr w' (Addr.add p 3) [Value.bool b]
                                                                              fun w' =>
                                                                              ∃ n,
                                                                                World.cell? w' (Addr.add p 0) =
                                                                                    some (Value.int IntKind.i64 n) ∧
                                                                                  ∃ n_7,
                                                                                    World.cell? w'
                                                                                          (Addr.add p 1) =
                                                                                        some
                                                                                          (Value.int IntKind.u64 n_7) ∧
                                                                                      ∃ n_8,
                                                                                        World.cell? w'
                                                                                              (Addr.add p 2) =
                                                                                            some
                                                                                              (Value.int IntKind.i64
                                                                                                n_8) ∧
                                                                                          ∃ b,
                                                                                            World.cell? w'
                                                                                                  (Addr.add p
                                                                                                    3) =
                                                                                                some (Value.bool b) ∧
                                                                                              New w'
                                                                                                [Value.int IntKind.i64
                                                                                                    n,
                                                                                                  Value.int IntKind.u64
                                                                                                    n_7,
                                                                                                  Value.int IntKind.i64
                                                                                                    n_8,
                                                                                                  Value.bool b]
                                                                                                41 fun p w' =>
                                                                                                ∃ p_1 n c w'_1,
                                                                                                  Sem.run Tryd.prog
                                                                                                        (Builtin.append_
                                                                                                          #[33,
                                                                                                            33]
                                                                                                          33
                                                                                                          #[Value.slice
                                                                                                              p5_out_a
                                                                                                              p5_out_n
                                                                                                              p5_out_c,
                                                                                                            Value.slice
                                                                                                              (some p)
                                                                                                              1
                                                                                                              1])
                                                                                                        w' =
                                                                                                      Result.ok
                                                                                                        (Value.slice p_1
                                                                                                          n c)
                                                                                                        w'_1 ∧
                                                                                                    B12_1
                                                                                                      [(0,
                                                                                                          SV.v
                                                                                                            (Value.int
                                                                                                              IntKind.u64
                                                                                                              p0_active)),
                                                                                                        (5,
                                                                                                          SV.v
                                                                                                            (Value.slice
                                                                                                              p_1 n c)),
                                                                                                        (8,
                                                                                                          SV.v
                                                                                                            (Value.slice
                                                                                                              p8_t_a
                                                                                                              p8_t_n
                                                                                                              p8_t_c)),
                                                                                                        (9,
                                                                                                          SV.v
                                                                                                            (Value.int
                                                                                                              IntKind.i64
                                                                                                              p9_t)),
                                                                                                        (10,
                                                                                                          SV.v
                                                                                                            (Value.int
                                                                                                              IntKind.i64
                                                                                                              (IntKind.wrap
                                                                                                                IntKind.i64
                                                                                                                (p10_t +
                                                                                                                  (1 :
                                                                                                                    Int)))))]
                                                                                                      w'_1)) ∧
                                ((p0_active == (0 : Int)) = true →
                                  B12_1
                                    [(0, SV.v (Value.int IntKind.u64 p0_active)),
                                      (5, SV.v (Value.slice p5_out_a p5_out_n p5_out_c)),
                                      (8, SV.v (Value.slice p8_t_a p8_t_n p8_t_c)),
                                      (9, SV.v (Value.int IntKind.i64 p9_t)),
                                      (10,
                                        SV.v (Value.int IntKind.i64 (IntKind.wrap IntKind.i64 (p10_t + (1 : Int)))))]
                                    w')) ∧
  (decide (p10_t < p9_t) = false → R (Ending.returned (Value.slice p5_out_a p5_out_n p5_out_c)) w)) := by kernel_rfl
/-! davit/davitref12.Same -/
def M13 : Mt := { N := 26, keep := [(0, [0, 1]), (1, [0, 1, 10]), (2, [4]), (3, [0, 1, 5]), (4, [0, 1, 5, 14]), (5, [0, 1, 5]), (6, [0, 1, 5, 25]), (7, [4]), (8, [4])], ords := [(6, [0, 1, 2, 3, 4, 5, 6, 7, 8])], bk := [(0, []), (1, [0, 1, 5])], cuts := [], lk := [(4, [0, 1, 5])] }
noncomputable def c13 : Code := bodyOf Tryd.f13
noncomputable def c13_0 : Code := c13.sr.sr.sr
noncomputable def c13_1 : Code := c13.sr.sr.sl.sr.sl.sl
def e13_1 (p0_a_a : Option Addr) (p0_a_n : Nat) (p0_a_c : Nat) (p1_b_a : Option Addr) (p1_b_n : Nat) (p1_b_c : Nat) (p5_i : Int) : Env := [(0, SV.v (Value.slice p0_a_a p0_a_n p0_a_c)), (1, SV.v (Value.slice p1_b_a p1_b_n p1_b_c)), (5, SV.v (Value.int IntKind.i64 p5_i))]
def k13_1 (R : Ending → World → Prop) : Cont := blockK 0 [] (seqK (fun E w => cutB (findL M13.cuts (headReg c13_0)) Tryd.prog M13 c13_0 E w (retK Tryd.prog Tryd.f13.results.toList R) fun E => den Tryd.prog M13 c13_0 E w (retK Tryd.prog Tryd.f13.results.toList R)) (retK Tryd.prog Tryd.f13.results.toList R))
theorem b13 : Tryd.f13.body = some c13 := by kernel_rfl
theorem n13 : Tryd.f13.ntmps = M13.N := by kernel_rfl
theorem u13 {p0_a_a : Option Addr} {p0_a_n : Nat} {p0_a_c : Nat} {p1_b_a : Option Addr} {p1_b_n : Nat} {p1_b_c : Nat} {w : World} {R : Ending → World → Prop} (h : den Tryd.prog M13 c13 (argE 0 [(Value.slice p0_a_a p0_a_n p0_a_c), (Value.slice p1_b_a p1_b_n p1_b_c)]) w (retK Tryd.prog Tryd.f13.results.toList R)) : Calls Tryd.prog 13 #[(Value.slice p0_a_a p0_a_n p0_a_c), (Value.slice p1_b_a p1_b_n p1_b_c)] w R := calls_den okProg Tryd.func13 b13 n13 (Nat.le_of_ble_eq_true rfl) h
theorem t13 (p0_a_a : Option Addr) (p0_a_n : Nat) (p0_a_c : Nat) (p1_b_a : Option Addr) (p1_b_n : Nat) (p1_b_c : Nat) (w : World) (R : Ending → World → Prop) : den Tryd.prog M13 c13 (argE 0 [(Value.slice p0_a_a p0_a_n p0_a_c), (Value.slice p1_b_a p1_b_n p1_b_c)]) w (retK Tryd.prog Tryd.f13.results.toList R) =
((((↑p0_a_n : Int) != (↑p1_b_n : Int)) = true → R (Ending.returned (Value.bool false)) w) ∧
  (((↑p0_a_n : Int) != (↑p1_b_n : Int)) = false →
    Cut
      (WP Tryd.prog 26 (Code.loop c13_1) (e13_1 p0_a_a p0_a_n p0_a_c p1_b_a p1_b_n p1_b_c (0 : Int)) w
        (k13_1 R)))) := by kernel_rfl
theorem t13_1 (p0_a_a : Option Addr) (p0_a_n : Nat) (p0_a_c : Nat) (p1_b_a : Option Addr) (p1_b_n : Nat) (p1_b_c : Nat) (p5_i : Int) (w : World) (B13_1 : Env → World → Prop) (R : Ending → World → Prop) : den Tryd.prog M13 c13_1 (e13_1 p0_a_a p0_a_n p0_a_c p1_b_a p1_b_n p1_b_c p5_i) w (loopK B13_1 (k13_1 R)) =
((decide (p5_i < (↑p0_a_n : Int)) = true →
    ∀ (w' : World),
      World.heap w' = World.heap w →
        World.os w' = World.os w →
          World.tape w' = World.tape w →
            World.output w' = World.output w →
              ((0 : Int) ≤ p5_i ∧ p5_i < (↑p0_a_n : Int)) ∧
                ∃ a,
                  p0_a_a = some a ∧
                    ∃ n,
                      World.cell? w' (Addr.add (Addr.add a (Int.toNat p5_i * 4)) 0) =
                          some (Value.int IntKind.i64 n) ∧
                        ∃ n_1,
                          World.cell? w' (Addr.add (Addr.add a (Int.toNat p5_i * 4)) 1) =
                              some (Value.int IntKind.u64 n_1) ∧
                            ∃ n_2,
                              World.cell? w' (Addr.add (Addr.add a (Int.toNat p5_i * 4)) 2) =
                                  some (Value.int IntKind.i64 n_2) ∧
                                ∃ b,
                                  World.cell? w' (Addr.add (Addr.add a (Int.toNat p5_i * 4)) 3) =
                                      some (Value.bool b) ∧
                                    ((0 : Int) ≤ p5_i ∧ p5_i < (↑p1_b_n : Int)) ∧
                                      ∃ a,
                                        p1_b_a = some a ∧
                                          ∃ n_3,
                                            World.cell? w'
                                                  (Addr.add (Addr.add a (Int.toNat p5_i * 4)) 0) =
                                                some (Value.int IntKind.i64 n_3) ∧
                                              ∃ n_4,
                                                World.cell? w'
                                                      (Addr.add (Addr.add a (Int.toNat p5_i * 4)) 1) =
                                                    some (Value.int IntKind.u64 n_4) ∧
                                                  ∃ n_5,
                                                    World.cell? w'
                                                          (Addr.add (Addr.add a (Int.toNat p5_i * 4))
                                                            2) =
                                                        some (Value.int IntKind.i64 n_5) ∧
                                                      ∃ b_1,
                                                        World.cell? w'
                                                              (Addr.add (Addr.add a (Int.toNat p5_i * 4))
                                                                3) =
                                                            some (Value.bool b_1) ∧
                                                          ∃ b_2,
                                                            Sem.run Tryd.prog
                                                                  (Op.equal 44
                                                                    (Value.agg
                                                                      #[Value.int IntKind.i64 n,
                                                                        Value.int IntKind.u64 n_1,
                                                                        Value.int IntKind.i64 n_2, Value.bool b])
                                                                    (Value.agg
                                                                      #[Value.int IntKind.i64 n_3,
                                                                        Value.int IntKind.u64 n_4,
                                                                        Value.int IntKind.i64 n_5, Value.bool b_1]))
                                                                  w' =
                                                                Result.ok b_2 w' ∧
                                                              false = false ∧
                                                                ((!b_2) = true →
                                                                    R (Ending.returned (Value.bool false)) w') ∧
                                                                  ((!b_2) = false →
                                                                    B13_1
                                                                      [(0,
                                                                          SV.v (Value.slice p0_a_a p0_a_n p0_a_c)),
                                                                        (1,
                                                                          SV.v (Value.slice p1_b_a p1_b_n p1_b_c)),
                                                                        (5,
                                                                          SV.v
                                                                            (Value.int IntKind.i64
                                                                              (IntKind.wrap IntKind.i64
                                                                                (p5_i + (1 : Int)))))]
                                                                      w')) ∧
  (decide (p5_i < (↑p0_a_n : Int)) = false → R (Ending.returned (Value.bool true)) w)) := by kernel_rfl
/-! davit/davitlaw12.taken -/
def M14 : Mt := { N := 36, keep := [(0, [0]), (1, [0, 3]), (2, [0, 3, 4]), (3, [0, 3, 4, 8]), (4, [0, 3, 4]), (5, [0, 3, 4]), (6, [2])], ords := [(5, [0, 1, 2, 3, 4, 5, 6, 7, 8, 9, 10, 11, 12, 13, 14, 15, 16, 17, 18, 19, 20, 21, 22, 23, 24])], bk := [(0, [3]), (1, [0, 3, 4])], cuts := [], lk := [(3, [0, 3, 4])] }
noncomputable def c14 : Code := bodyOf Tryd.f14
noncomputable def c14_0 : Code := c14.sr.sr.sr
noncomputable def c14_1 : Code := c14.sr.sr.sl.sr.sl.sl
def e14_1 (p0_l_a : Option Addr) (p0_l_n : Nat) (p0_l_c : Nat) (p3_out_a : Option Addr) (p3_out_n : Nat) (p3_out_c : Nat) (p4_i : Int) : Env := [(0, SV.v (Value.slice p0_l_a p0_l_n p0_l_c)), (3, SV.v (Value.slice p3_out_a p3_out_n p3_out_c)), (4, SV.v (Value.int IntKind.i64 p4_i))]
def k14_1 (R : Ending → World → Prop) : Cont := blockK 0 [3] (seqK (fun E w => cutB (findL M14.cuts (headReg c14_0)) Tryd.prog M14 c14_0 E w (retK Tryd.prog Tryd.f14.results.toList R) fun E => den Tryd.prog M14 c14_0 E w (retK Tryd.prog Tryd.f14.results.toList R)) (retK Tryd.prog Tryd.f14.results.toList R))
theorem b14 : Tryd.f14.body = some c14 := by kernel_rfl
theorem n14 : Tryd.f14.ntmps = M14.N := by kernel_rfl
theorem u14 {p0_l_a : Option Addr} {p0_l_n : Nat} {p0_l_c : Nat} {w : World} {R : Ending → World → Prop} (h : den Tryd.prog M14 c14 (argE 0 [(Value.slice p0_l_a p0_l_n p0_l_c)]) w (retK Tryd.prog Tryd.f14.results.toList R)) : Calls Tryd.prog 14 #[(Value.slice p0_l_a p0_l_n p0_l_c)] w R := calls_den okProg Tryd.func14 b14 n14 (Nat.le_of_ble_eq_true rfl) h
theorem t14 (p0_l_a : Option Addr) (p0_l_n : Nat) (p0_l_c : Nat) (w : World) (R : Ending → World → Prop) : den Tryd.prog M14 c14 (argE 0 [(Value.slice p0_l_a p0_l_n p0_l_c)]) w (retK Tryd.prog Tryd.f14.results.toList R) =
(Cut
  (WP Tryd.prog 36 (Code.loop c14_1) (e14_1 p0_l_a p0_l_n p0_l_c none 0 0 (0 : Int)) w
    (k14_1 R))) := by kernel_rfl
theorem t14_1 (p0_l_a : Option Addr) (p0_l_n : Nat) (p0_l_c : Nat) (p3_out_a : Option Addr) (p3_out_n : Nat) (p3_out_c : Nat) (p4_i : Int) (w : World) (B14_1 : Env → World → Prop) (R : Ending → World → Prop) : den Tryd.prog M14 c14_1 (e14_1 p0_l_a p0_l_n p0_l_c p3_out_a p3_out_n p3_out_c p4_i) w (loopK B14_1 (k14_1 R)) =
((decide (p4_i < (↑p0_l_n : Int)) = true →
    ∀ (w' : World),
      World.heap w' = World.heap w →
        World.os w' = World.os w →
          World.tape w' = World.tape w →
            World.output w' = World.output w →
              ((0 : Int) ≤ p4_i ∧ p4_i < (↑p0_l_n : Int)) ∧
                ∃ a,
                  p0_l_a = some a ∧
                    ∃ n,
                      World.cell? w' (Addr.add (Addr.add a (Int.toNat p4_i * 4)) 0) =
                          some (Value.int IntKind.i64 n) ∧
                        ((0 : Int) ≤ p4_i ∧ p4_i < (↑p0_l_n : Int)) ∧
                          ∃ a,
                            p0_l_a = some a ∧
                              ∃ n_1,
                                World.cell? w' (Addr.add (Addr.add a (Int.toNat p4_i * 4)) 1) =
                                    some (Value.int IntKind.u64 n_1) ∧
                                  ((0 : Int) ≤ p4_i ∧ p4_i < (↑p0_l_n : Int)) ∧
                                    ∃ a,
                                      p0_l_a = some a ∧
                                        ∃ n_2,
                                          World.cell? w'
                                                (Addr.add (Addr.add a (Int.toNat p4_i * 4)) 2) =
                                              some (Value.int IntKind.i64 n_2) ∧
                                            ((0 : Int) ≤ p4_i ∧ p4_i < (↑p0_l_n : Int)) ∧
                                              ∃ a,
                                                p0_l_a = some a ∧
                                                  ∃ b,
                                                    World.cell? w'
                                                          (Addr.add (Addr.add a (Int.toNat p4_i * 4))
                                                            3) =
                                                        some (Value.bool b) ∧
                                                      New w'
                                                        [Value.int IntKind.i64 n, Value.int IntKind.u64 n_1,
                                                          Value.int IntKind.i64 n_2, Value.bool b]
                                                        44 fun p w' =>
                                                        ∃ p_1 n c w'_1,
                                                          Sem.run Tryd.prog
                                                                (Builtin.append_ #[32, 32] 32
                                                                  #[Value.slice p3_out_a p3_out_n p3_out_c,
                                                                    Value.slice (some p) 1 1])
                                                                w' =
                                                              Result.ok (Value.slice p_1 n c) w'_1 ∧
                                                            B14_1
                                                              [(0, SV.v (Value.slice p0_l_a p0_l_n p0_l_c)),
                                                                (3, SV.v (Value.slice p_1 n c)),
                                                                (4,
                                                                  SV.v
                                                                    (Value.int IntKind.i64
                                                                      (IntKind.wrap IntKind.i64 (p4_i + (1 : Int)))))]
                                                              w'_1) ∧
  (decide (p4_i < (↑p0_l_n : Int)) = false → R (Ending.returned (Value.slice p3_out_a p3_out_n p3_out_c)) w)) := by kernel_rfl
/-! davit/davitref12.Repair -/
def M15 : Mt := { N := 59, keep := [(0, [0, 1]), (1, [0, 1, 5]), (2, [0, 1, 5, 6]), (3, [0, 1, 5, 6, 17]), (4, [0, 1, 5, 6]), (5, [0, 1, 5, 6, 25]), (6, [0, 1, 5, 6, 7, 8]), (7, [0, 1, 5, 6]), (8, [4])], ords := [(6, [0, 1, 2, 3, 4, 5, 6, 7, 8, 9, 10, 11, 12, 13, 14, 15, 16, 17, 18]), (7, [0, 1, 2, 3, 4, 5, 6, 7, 8, 9, 10, 11, 12, 13, 14, 15, 16])], bk := [(0, [5]), (1, [0, 1, 5, 6])], cuts := [], lk := [(3, [0, 1, 5, 6])] }
noncomputable def c15 : Code := bodyOf Tryd.f15
noncomputable def c15_0 : Code := c15.sr.sr.sr
noncomputable def c15_1 : Code := c15.sr.sr.sl.sr.sl.sl
def e15_1 (p0_active : Int) (p1_l_a : Option Addr) (p1_l_n : Nat) (p1_l_c : Nat) (p5_out_a : Option Addr) (p5_out_n : Nat) (p5_out_c : Nat) (p6_i : Int) : Env := [(0, SV.v (Value.int IntKind.u64 p0_active)), (1, SV.v (Value.slice p1_l_a p1_l_n p1_l_c)), (5, SV.v (Value.slice p5_out_a p5_out_n p5_out_c)), (6, SV.v (Value.int IntKind.i64 p6_i))]
def k15_1 (R : Ending → World → Prop) : Cont := blockK 0 [5] (seqK (fun E w => cutB (findL M15.cuts (headReg c15_0)) Tryd.prog M15 c15_0 E w (retK Tryd.prog Tryd.f15.results.toList R) fun E => den Tryd.prog M15 c15_0 E w (retK Tryd.prog Tryd.f15.results.toList R)) (retK Tryd.prog Tryd.f15.results.toList R))
theorem b15 : Tryd.f15.body = some c15 := by kernel_rfl
theorem n15 : Tryd.f15.ntmps = M15.N := by kernel_rfl
theorem u15 {p0_active : Int} {p1_l_a : Option Addr} {p1_l_n : Nat} {p1_l_c : Nat} {w : World} {R : Ending → World → Prop} (h : den Tryd.prog M15 c15 (argE 0 [(Value.int IntKind.u64 p0_active), (Value.slice p1_l_a p1_l_n p1_l_c)]) w (retK Tryd.prog Tryd.f15.results.toList R)) : Calls Tryd.prog 15 #[(Value.int IntKind.u64 p0_active), (Value.slice p1_l_a p1_l_n p1_l_c)] w R := calls_den okProg Tryd.func15 b15 n15 (Nat.le_of_ble_eq_true rfl) h
theorem t15 (p0_active : Int) (p1_l_a : Option Addr) (p1_l_n : Nat) (p1_l_c : Nat) (w : World) (R : Ending → World → Prop) : den Tryd.prog M15 c15 (argE 0 [(Value.int IntKind.u64 p0_active), (Value.slice p1_l_a p1_l_n p1_l_c)]) w (retK Tryd.prog Tryd.f15.results.toList R) =
(Cut
  (WP Tryd.prog 59 (Code.loop c15_1)
    (e15_1 p0_active p1_l_a p1_l_n p1_l_c none 0 0 (0 : Int)) w (k15_1 R))) := by kernel_rfl
theorem t15_1 (p0_active : Int) (p1_l_a : Option Addr) (p1_l_n : Nat) (p1_l_c : Nat) (p5_out_a : Option Addr) (p5_out_n : Nat) (p5_out_c : Nat) (p6_i : Int) (w : World) (B15_1 : Env → World → Prop) (R : Ending → World → Prop) : den Tryd.prog M15 c15_1 (e15_1 p0_active p1_l_a p1_l_n p1_l_c p5_out_a p5_out_n p5_out_c p6_i) w (loopK B15_1 (k15_1 R)) =
((decide (p6_i < (↑p1_l_n : Int)) = true →
    ((p0_active != (0 : Int)) = true →
        ((0 : Int) ≤ p6_i ∧ p6_i < (↑p1_l_n : Int)) ∧
          ∃ a,
            p1_l_a = some a ∧
              ∃ n,
                World.cell? w (Addr.add (Addr.add a (Int.toNat p6_i * 4)) 0) =
                    some (Value.int IntKind.i64 n) ∧
                  ∃ n_1,
                    World.cell? w (Addr.add (Addr.add a (Int.toNat p6_i * 4)) 1) =
                        some (Value.int IntKind.u64 n_1) ∧
                      ∃ n_2,
                        World.cell? w (Addr.add (Addr.add a (Int.toNat p6_i * 4)) 2) =
                            some (Value.int IntKind.i64 n_2) ∧
                          ∃ b,
                            World.cell? w (Addr.add (Addr.add a (Int.toNat p6_i * 4)) 3) =
                                some (Value.bool b) ∧
                              Call Tryd.prog 17
                                [Value.int IntKind.u64 p0_active,
                                  Value.agg
                                    #[Value.int IntKind.i64 n, Value.int IntKind.u64 n_1, Value.int IntKind.i64 n_2,
                                      Value.bool b]]
                                w fun e w' =>
                                ∃ b,
                                  e = Ending.returned (Value.bool b) ∧
                                    (b = true →
                                        ∀ (w'_1 : World),
                                          World.heap w'_1 = World.heap w' →
                                            World.os w'_1 = World.os w' →
                                              World.tape w'_1 = World.tape w' →
                                                World.output w'_1 = World.output w' →
                                                  ((0 : Int) ≤ p6_i ∧ p6_i < (↑p1_l_n : Int)) ∧
                                                    ∃ a,
                                                      p1_l_a = some a ∧
                                                        ∃ n,
                                                          World.cell? w'_1
                                                                (Addr.add (Addr.add a (Int.toNat p6_i * 4))
                                                                  1) =
                                                              some (Value.int IntKind.u64 n) ∧
                                                            ((0 : Int) ≤ p6_i ∧ p6_i < (↑p1_l_n : Int)) ∧
                                                              ∃ a,
                                                                p1_l_a = some a ∧
                                                                  ∃ n_3,
                                                                    World.cell? w'_1
                                                                          (Addr.add
                                                                            (Addr.add a (Int.toNat p6_i * 4))
                                                                            2) =
                                                                        some (Value.int IntKind.i64 n_3) ∧
                                                                      Call Tryd.prog 7
                                                                        [Value.int IntKind.u64 n,
                                                                          Value.int IntKind.u64 p0_active,
                                                                          Value.int IntKind.i64 n_3]
                                                                        w'_1 fun e w' =>
                                                                        ∃ n b n_4,
                                                                          e =
                                                                              Ending.returned
                                                                                (Value.tuple
                                                                                  #[Value.int IntKind.i64 n,
                                                                                    Value.bool b,
                                                                                    Value.int IntKind.i64 n_4]) ∧
                                                                            ∀ (w'_2 : World),
                                                                              World.heap w'_2 = World.heap w' →
                                                                                World.os w'_2 = World.os w' →
                                                                                  World.tape w'_2 = World.tape w' →
                                                                                    World.output w'_2 =
                                                                                        World.output w' →
                                                                                      ((0 : Int) ≤ p6_i ∧
                                                                                          p6_i < (↑p1_l_n : Int)) ∧
                                                                                        ∃ a,
                                                                                          p1_l_a = some a ∧
                                                                                            ∃ n_5,
                                                                                              World.cell? w'_2
                                                                                                    (Addr.add
                                                                                                      (Addr.add a
                                                                                                        (Int.toNat
                                                                                                            p6_i *
                                                                                                          4))
                                                                                                      0) =
                                                                                                  some
                                                                                                    (Value.int
                                                                                                      IntKind.i64 n_5) ∧
                                                                                                ((0 : Int) ≤ p6_i ∧
                                                                                                    p6_i <
                                                                                                      (↑p1_l_n :
                                                                                                        Int)) ∧
                                                                                                  ∃ a,
                                                                                                    p1_l_a = some a ∧
                                                                                                      ∃ n_6,
                                                                                                        World.cell? w'_2
                                                                                                              (Addr.add
                                                                                                                (Addr.add
                                                                                                                  a
                                                                                                                  (Int.toNat
                                                                                                                      p6_i *
                                                                                                                    4))
                                                                                                                1) =
                                                                                                            some
                                                                                                              (Value.int
                                                                                                                IntKind.u64
                                                                                                                n_6) ∧
                                                                                                          New w'_2
                                                                                                            [Value.int
                                                                                                                IntKind.i64
                                                                                                                n_5,
                                                                                                              Value.int
                                                                                                                IntKind.u64
                                                                                                                n_6,
                                                                                                              Value.int
                                                                                                                IntKind.i64
                                                                                                                n,
                                                                                                              Value.bool
                                                                                                                b]
                                                                                                            44
                                                                                                            fun p w' =>
                                                                                                            ∃ p_1 n c
                                                                                                              w'_3,
                                                                                                              Sem.run
                                                                                                                    Tryd.prog
                                                                                                                    (Builtin.append_
                                                                                                                      #[32,
                                                                                                                        32]
                                                                                                                      32
                                                                                                                      #[Value.slice
                                                                                                                          p5_out_a
                                                                                                                          p5_out_n
                                                                                                                          p5_out_c,
                                                                                                                        Value.slice
                                                                                                                          (some
                                                                                                                            p)
                                                                                                                          1
                                                                                                                          1])
                                                                                                                    w' =
                                                                                                                  Result.ok
                                                                                                                    (Value.slice
                                                                                                                      p_1
                                                                                                                      n
                                                                                                                      c)
                                                                                                                    w'_3 ∧
                                                                                                                B15_1
                                                                                                                  [(0,
                                                                                                                      SV.v
                                                                                                                        (Value.int
                                                                                                                          IntKind.u64
                                                                                                                          p0_active)),
                                                                                                                    (1,
                                                                                                                      SV.v
                                                                                                                        (Value.slice
                                                                                                                          p1_l_a
                                                                                                                          p1_l_n
                                                                                                                          p1_l_c)),
                                                                                                                    (5,
                                                                                                                      SV.v
                                                                                                                        (Value.slice
                                                                                                                          p_1
                                                                                                                          n
                                                                                                                          c)),
                                                                                                                    (6,
                                                                                                                      SV.v
                                                                                                                        (Value.int
                                                                                                                          IntKind.i64
                                                                                                                          (IntKind.wrap
                                                                                                                            IntKind.i64
                                                                                                                            (p6_i +
                                                                                                                              (1 :
                                                                                                                                Int)))))]
                                                                                                                  w'_3) ∧
                                      (b = false →
                                        B15_1
                                          [(0, SV.v (Value.int IntKind.u64 p0_active)),
                                            (1, SV.v (Value.slice p1_l_a p1_l_n p1_l_c)),
                                            (5, SV.v (Value.slice p5_out_a p5_out_n p5_out_c)),
                                            (6,
                                              SV.v
                                                (Value.int IntKind.i64 (IntKind.wrap IntKind.i64 (p6_i + (1 : Int)))))]
                                          w')) ∧
      ((p0_active != (0 : Int)) = false → R (Ending.returned (Value.slice p5_out_a p5_out_n p5_out_c)) w)) ∧
  (decide (p6_i < (↑p1_l_n : Int)) = false → R (Ending.returned (Value.slice p5_out_a p5_out_n p5_out_c)) w)) := by kernel_rfl
/-! davit/affin.Wrong -/
def M16 : Mt := { N := 31, keep := [(0, [0, 3]), (1, [0, 3, 5]), (2, [0, 3, 5, 11]), (3, [4]), (4, [3, 5, 17]), (5, [4]), (6, [4])], ords := [], bk := [(0, [3, 5])], cuts := [], lk := [] }
noncomputable def c16 : Code := bodyOf Tryd.f16
theorem b16 : Tryd.f16.body = some c16 := by kernel_rfl
theorem n16 : Tryd.f16.ntmps = M16.N := by kernel_rfl
theorem u16 {p0_active : Int} {p1_x_0 : Int} {p1_x_1 : Int} {p1_x_2 : Int} {p1_x_3 : Bool} {w : World} {R : Ending → World → Prop} (h : den Tryd.prog M16 c16 (argE 0 [(Value.int IntKind.u64 p0_active), (Value.agg #[(Value.int IntKind.i64 p1_x_0), (Value.int IntKind.u64 p1_x_1), (Value.int IntKind.i64 p1_x_2), (Value.bool p1_x_3)])]) w (retK Tryd.prog Tryd.f16.results.toList R)) : Calls Tryd.prog 16 #[(Value.int IntKind.u64 p0_active), (Value.agg #[(Value.int IntKind.i64 p1_x_0), (Value.int IntKind.u64 p1_x_1), (Value.int IntKind.i64 p1_x_2), (Value.bool p1_x_3)])] w R := calls_den okProg Tryd.func16 b16 n16 (Nat.le_of_ble_eq_true rfl) h
theorem t16 (p0_active : Int) (p1_x_0 : Int) (p1_x_1 : Int) (p1_x_2 : Int) (p1_x_3 : Bool) (w : World) (R : Ending → World → Prop) : den Tryd.prog M16 c16 (argE 0 [(Value.int IntKind.u64 p0_active), (Value.agg #[(Value.int IntKind.i64 p1_x_0), (Value.int IntKind.u64 p1_x_1), (Value.int IntKind.i64 p1_x_2), (Value.bool p1_x_3)])]) w (retK Tryd.prog Tryd.f16.results.toList R) =
(New w [Value.int IntKind.i64 p1_x_0, Value.int IntKind.u64 p1_x_1, Value.int IntKind.i64 p1_x_2, Value.bool p1_x_3]
  41 fun p w' =>
  ∃ n,
    World.cell? w' (Addr.add p 1) = some (Value.int IntKind.u64 n) ∧
      ∃ n_1,
        World.cell? w' (Addr.add p 2) = some (Value.int IntKind.i64 n_1) ∧
          Call Tryd.prog 19 [Value.int IntKind.u64 n, Value.int IntKind.i64 n_1] w' fun e w' =>
            ∃ b,
              e = Ending.returned (Value.bool b) ∧
                ∃ n,
                  World.cell? w' (Addr.add p 2) = some (Value.int IntKind.i64 n) ∧
                    Call Tryd.prog 19 [Value.int IntKind.u64 p0_active, Value.int IntKind.i64 n] w' fun e w' =>
                      ∃ b_1,
                        e = Ending.returned (Value.bool b_1) ∧
                          ((!b_1) = true → R (Ending.returned (Value.bool true)) w') ∧
                            ((!b_1) = false →
                              ((!b) = true →
                                  ∃ n,
                                    World.cell? w' (Addr.add p 1) = some (Value.int IntKind.u64 n) ∧
                                      Call Tryd.prog 18
                                        [Value.int IntKind.u64 n, Value.int IntKind.u64 p0_active] w' fun e w' =>
                                        ∃ n,
                                          e = Ending.returned (Value.int IntKind.u64 n) ∧
                                            ((n != (0 : Int)) = true → R (Ending.returned (Value.bool true)) w') ∧
                                              ((n != (0 : Int)) = false →
                                                ∃ b_2,
                                                  World.cell? w' (Addr.add p 3) = some (Value.bool b_2) ∧
                                                    R (Ending.returned (Value.bool (b_2 == b))) w')) ∧
                                ((!b) = false →
                                  ∃ b_2,
                                    World.cell? w' (Addr.add p 3) = some (Value.bool b_2) ∧
                                      R (Ending.returned (Value.bool (b_2 == b))) w'))) := by kernel_rfl
/-! davit/davitref12.Wrong -/
def M17 : Mt := { N := 33, keep := [(0, [0, 3]), (1, [0, 3, 5]), (2, [4])], ords := [], bk := [], cuts := [], lk := [] }
noncomputable def c17 : Code := bodyOf Tryd.f17
theorem b17 : Tryd.f17.body = some c17 := by kernel_rfl
theorem n17 : Tryd.f17.ntmps = M17.N := by kernel_rfl
theorem u17 {p0_active : Int} {p1_x_0 : Int} {p1_x_1 : Int} {p1_x_2 : Int} {p1_x_3 : Bool} {w : World} {R : Ending → World → Prop} (h : den Tryd.prog M17 c17 (argE 0 [(Value.int IntKind.u64 p0_active), (Value.agg #[(Value.int IntKind.i64 p1_x_0), (Value.int IntKind.u64 p1_x_1), (Value.int IntKind.i64 p1_x_2), (Value.bool p1_x_3)])]) w (retK Tryd.prog Tryd.f17.results.toList R)) : Calls Tryd.prog 17 #[(Value.int IntKind.u64 p0_active), (Value.agg #[(Value.int IntKind.i64 p1_x_0), (Value.int IntKind.u64 p1_x_1), (Value.int IntKind.i64 p1_x_2), (Value.bool p1_x_3)])] w R := calls_den okProg Tryd.func17 b17 n17 (Nat.le_of_ble_eq_true rfl) h
theorem t17 (p0_active : Int) (p1_x_0 : Int) (p1_x_1 : Int) (p1_x_2 : Int) (p1_x_3 : Bool) (w : World) (R : Ending → World → Prop) : den Tryd.prog M17 c17 (argE 0 [(Value.int IntKind.u64 p0_active), (Value.agg #[(Value.int IntKind.i64 p1_x_0), (Value.int IntKind.u64 p1_x_1), (Value.int IntKind.i64 p1_x_2), (Value.bool p1_x_3)])]) w (retK Tryd.prog Tryd.f17.results.toList R) =
(New w [Value.int IntKind.i64 p1_x_0, Value.int IntKind.u64 p1_x_1, Value.int IntKind.i64 p1_x_2, Value.bool p1_x_3]
  44 fun p w' =>
  ∃ n,
    World.cell? w' (Addr.add p 1) = some (Value.int IntKind.u64 n) ∧
      ∃ n_1,
        World.cell? w' (Addr.add p 2) = some (Value.int IntKind.i64 n_1) ∧
          Call Tryd.prog 9 [Value.int IntKind.u64 n, Value.int IntKind.i64 n_1] w' fun e w' =>
            ∃ b,
              e = Ending.returned (Value.bool b) ∧
                ∃ n,
                  World.cell? w' (Addr.add p 2) = some (Value.int IntKind.i64 n) ∧
                    Call Tryd.prog 9 [Value.int IntKind.u64 p0_active, Value.int IntKind.i64 n] w' fun e w' =>
                      ∃ b_1,
                        e = Ending.returned (Value.bool b_1) ∧
                          ((!b_1) = false →
                              ((!b) = true →
                                  ∃ n,
                                    World.cell? w' (Addr.add p 1) = some (Value.int IntKind.u64 n) ∧
                                      Call Tryd.prog 10
                                        [Value.int IntKind.u64 n, Value.int IntKind.u64 p0_active] w' fun e w' =>
                                        ∃ n,
                                          e = Ending.returned (Value.int IntKind.u64 n) ∧
                                            ((n != (0 : Int)) = false →
                                                ∃ b_2,
                                                  World.cell? w' (Addr.add p 3) = some (Value.bool b_2) ∧
                                                    R (Ending.returned (Value.bool (b_2 == b))) w') ∧
                                              ((n != (0 : Int)) = true → R (Ending.returned (Value.bool true)) w')) ∧
                                ((!b) = false →
                                  ∃ b_2,
                                    World.cell? w' (Addr.add p 3) = some (Value.bool b_2) ∧
                                      R (Ending.returned (Value.bool (b_2 == b))) w')) ∧
                            ((!b_1) = true → R (Ending.returned (Value.bool true)) w')) := by kernel_rfl
/-! (davit/mask.Mask).And -/
def M18 : Mt := { N := 8, keep := [(0, [0, 1]), (1, [4])], ords := [], bk := [], cuts := [], lk := [] }
noncomputable def c18 : Code := bodyOf Tryd.f18
theorem b18 : Tryd.f18.body = some c18 := by kernel_rfl
theorem n18 : Tryd.f18.ntmps = M18.N := by kernel_rfl
theorem u18 {p0_m : Int} {p1_o : Int} {w : World} {R : Ending → World → Prop} (h : den Tryd.prog M18 c18 (argE 0 [(Value.int IntKind.u64 p0_m), (Value.int IntKind.u64 p1_o)]) w (retK Tryd.prog Tryd.f18.results.toList R)) : Calls Tryd.prog 18 #[(Value.int IntKind.u64 p0_m), (Value.int IntKind.u64 p1_o)] w R := calls_den okProg Tryd.func18 b18 n18 (Nat.le_of_ble_eq_true rfl) h
theorem t18 (p0_m : Int) (p1_o : Int) (w : World) (R : Ending → World → Prop) : den Tryd.prog M18 c18 (argE 0 [(Value.int IntKind.u64 p0_m), (Value.int IntKind.u64 p1_o)]) w (retK Tryd.prog Tryd.f18.results.toList R) =
(R (Ending.returned (Value.int IntKind.u64 (bitsOp BinOp.and IntKind.u64 p0_m p1_o))) w) := by kernel_rfl
/-! (davit/mask.Mask).Has -/
def M19 : Mt := { N := 10, keep := [(0, [0, 1]), (1, [4])], ords := [], bk := [], cuts := [], lk := [] }
noncomputable def c19 : Code := bodyOf Tryd.f19
theorem b19 : Tryd.f19.body = some c19 := by kernel_rfl
theorem n19 : Tryd.f19.ntmps = M19.N := by kernel_rfl
theorem u19 {p0_m : Int} {p1_cpu : Int} {w : World} {R : Ending → World → Prop} (h : den Tryd.prog M19 c19 (argE 0 [(Value.int IntKind.u64 p0_m), (Value.int IntKind.i64 p1_cpu)]) w (retK Tryd.prog Tryd.f19.results.toList R)) : Calls Tryd.prog 19 #[(Value.int IntKind.u64 p0_m), (Value.int IntKind.i64 p1_cpu)] w R := calls_den okProg Tryd.func19 b19 n19 (Nat.le_of_ble_eq_true rfl) h
theorem t19 (p0_m : Int) (p1_cpu : Int) (w : World) (R : Ending → World → Prop) : den Tryd.prog M19 c19 (argE 0 [(Value.int IntKind.u64 p0_m), (Value.int IntKind.i64 p1_cpu)]) w (retK Tryd.prog Tryd.f19.results.toList R) =
(Call Tryd.prog 23 [Value.int IntKind.i64 p1_cpu] w fun e w' =>
  ∃ n,
    e = Ending.returned (Value.int IntKind.u64 n) ∧
      R (Ending.returned (Value.bool (bitsOp BinOp.and IntKind.u64 p0_m n != (0 : Int)))) w') := by kernel_rfl
/-! (davit/mask.Mask).Next -/
def M20 : Mt := { N := 32, keep := [(0, [0, 1]), (1, [0, 1, 12]), (2, [4, 5]), (3, [0, 6]), (4, [0, 6, 23]), (5, [4, 5]), (6, [4, 5])], ords := [], bk := [], cuts := [], lk := [] }
noncomputable def c20 : Code := bodyOf Tryd.f20
theorem b20 : Tryd.f20.body = some c20 := by kernel_rfl
theorem n20 : Tryd.f20.ntmps = M20.N := by kernel_rfl
theorem u20 {p0_m : Int} {p1_cpu : Int} {w : World} {R : Ending → World → Prop} (h : den Tryd.prog M20 c20 (argE 0 [(Value.int IntKind.u64 p0_m), (Value.int IntKind.i64 p1_cpu)]) w (retK Tryd.prog Tryd.f20.results.toList R)) : Calls Tryd.prog 20 #[(Value.int IntKind.u64 p0_m), (Value.int IntKind.i64 p1_cpu)] w R := calls_den okProg Tryd.func20 b20 n20 (Nat.le_of_ble_eq_true rfl) h
theorem t20 (p0_m : Int) (p1_cpu : Int) (w : World) (R : Ending → World → Prop) : den Tryd.prog M20 c20 (argE 0 [(Value.int IntKind.u64 p0_m), (Value.int IntKind.i64 p1_cpu)]) w (retK Tryd.prog Tryd.f20.results.toList R) =
((decide (p1_cpu < (0 : Int)) = false →
    (decide (p1_cpu ≥ (63 : Int)) = true →
        Call Tryd.prog 24 [Value.int IntKind.u64 p0_m] w fun e w' =>
          ∃ n n_1,
            e = Ending.returned (Value.tuple #[Value.int IntKind.i64 n, Value.int IntKind.i64 n_1]) ∧
              R (Ending.returned (Value.tuple #[Value.int IntKind.i64 n, Value.int IntKind.i64 n_1])) w') ∧
      (decide (p1_cpu ≥ (63 : Int)) = false →
        Call Tryd.prog 25 [Value.int IntKind.i64 (IntKind.wrap IntKind.i64 (p1_cpu + (1 : Int)))] w
          fun e w' =>
          ∃ n,
            e = Ending.returned (Value.int IntKind.u64 n) ∧
              ((bitsOp BinOp.andNot IntKind.u64 p0_m n != (0 : Int)) = true →
                  Call Tryd.prog 24 [Value.int IntKind.u64 (bitsOp BinOp.andNot IntKind.u64 p0_m n)] w'
                    fun e w' =>
                    ∃ n n_1,
                      e = Ending.returned (Value.tuple #[Value.int IntKind.i64 n, Value.int IntKind.i64 n_1]) ∧
                        R (Ending.returned (Value.tuple #[Value.int IntKind.i64 n, Value.int IntKind.i64 n_1])) w') ∧
                ((bitsOp BinOp.andNot IntKind.u64 p0_m n != (0 : Int)) = false →
                  Call Tryd.prog 24 [Value.int IntKind.u64 p0_m] w' fun e w' =>
                    ∃ n n_1,
                      e = Ending.returned (Value.tuple #[Value.int IntKind.i64 n, Value.int IntKind.i64 n_1]) ∧
                        R (Ending.returned (Value.tuple #[Value.int IntKind.i64 n, Value.int IntKind.i64 n_1])) w'))) ∧
  (decide (p1_cpu < (0 : Int)) = true →
    Call Tryd.prog 24 [Value.int IntKind.u64 p0_m] w fun e w' =>
      ∃ n n_1,
        e = Ending.returned (Value.tuple #[Value.int IntKind.i64 n, Value.int IntKind.i64 n_1]) ∧
          R (Ending.returned (Value.tuple #[Value.int IntKind.i64 n, Value.int IntKind.i64 n_1])) w')) := by kernel_rfl
/-! davit/davitref01.Next -/
def M21 : Mt := { N := 30, keep := [(0, [0, 1]), (1, [0, 1, 6]), (2, [0, 1, 6, 7]), (3, [0, 1, 6, 7, 13]), (4, [0, 1, 6, 7]), (5, [0, 1, 6, 7, 21]), (6, [4, 5]), (7, [4, 5])], ords := [], bk := [(0, [0]), (1, [0, 1, 6, 7])], cuts := [(7, [0])], lk := [(3, [0, 1, 6, 7])] }
noncomputable def c21 : Code := bodyOf Tryd.f21
noncomputable def c21_0 : Code := c21.sr.sr.sr
noncomputable def c21_1 : Code := c21.sr.sr.sl.sr.sl.sl
def e21_0 (p0_m : Int) : Env := [(0, SV.v (Value.int IntKind.u64 p0_m))]
def e21_1 (p0_m : Int) (p1_cpu : Int) (p6_l_a : Option Addr) (p6_l_n : Nat) (p6_l_c : Nat) (p7_i : Int) : Env := [(0, SV.v (Value.int IntKind.u64 p0_m)), (1, SV.v (Value.int IntKind.i64 p1_cpu)), (6, SV.v (Value.slice p6_l_a p6_l_n p6_l_c)), (7, SV.v (Value.int IntKind.i64 p7_i))]
def k21_0 (R : Ending → World → Prop) : Cont := retK Tryd.prog Tryd.f21.results.toList R
def k21_1 (R : Ending → World → Prop) : Cont := blockK 0 [0] (seqK (fun E w => cutB (findL M21.cuts (headReg c21_0)) Tryd.prog M21 c21_0 E w (retK Tryd.prog Tryd.f21.results.toList R) fun E => den Tryd.prog M21 c21_0 E w (retK Tryd.prog Tryd.f21.results.toList R)) (retK Tryd.prog Tryd.f21.results.toList R))
theorem b21 : Tryd.f21.body = some c21 := by kernel_rfl
theorem n21 : Tryd.f21.ntmps = M21.N := by kernel_rfl
theorem u21 {p0_m : Int} {p1_cpu : Int} {w : World} {R : Ending → World → Prop} (h : den Tryd.prog M21 c21 (argE 0 [(Value.int IntKind.u64 p0_m), (Value.int IntKind.i64 p1_cpu)]) w (retK Tryd.prog Tryd.f21.results.toList R)) : Calls Tryd.prog 21 #[(Value.int IntKind.u64 p0_m), (Value.int IntKind.i64 p1_cpu)] w R := calls_den okProg Tryd.func21 b21 n21 (Nat.le_of_ble_eq_true rfl) h
theorem t21 (p0_m : Int) (p1_cpu : Int) (w : World) (R : Ending → World → Prop) : den Tryd.prog M21 c21 (argE 0 [(Value.int IntKind.u64 p0_m), (Value.int IntKind.i64 p1_cpu)]) w (retK Tryd.prog Tryd.f21.results.toList R) =
(Call Tryd.prog 26 [Value.int IntKind.u64 p0_m] w fun e w' =>
  ∃ p n c,
    e = Ending.returned (Value.slice p n c) ∧
      Cut (WP Tryd.prog 30 (Code.loop c21_1) (e21_1 p0_m p1_cpu p n c (0 : Int)) w' (k21_1 R))) := by kernel_rfl
theorem t21_0 (p0_m : Int) (w : World) (R : Ending → World → Prop) : den Tryd.prog M21 c21_0 (e21_0 p0_m) w (k21_0 R) =
(Call Tryd.prog 27 [Value.int IntKind.u64 p0_m] w fun e w' =>
  ∃ n n_1,
    e = Ending.returned (Value.tuple #[Value.int IntKind.i64 n, Value.int IntKind.i64 n_1]) ∧
      R (Ending.returned (Value.tuple #[Value.int IntKind.i64 n, Value.int IntKind.i64 n_1])) w') := by kernel_rfl
theorem t21_1 (p0_m : Int) (p1_cpu : Int) (p6_l_a : Option Addr) (p6_l_n : Nat) (p6_l_c : Nat) (p7_i : Int) (w : World) (B21_1 : Env → World → Prop) (R : Ending → World → Prop) : den Tryd.prog M21 c21_1 (e21_1 p0_m p1_cpu p6_l_a p6_l_n p6_l_c p7_i) w (loopK B21_1 (k21_1 R)) =
((decide (p7_i < (↑p6_l_n : Int)) = true →
    ((0 : Int) ≤ p7_i ∧ p7_i < (↑p6_l_n : Int)) ∧
      ∃ a,
        p6_l_a = some a ∧
          ∃ n,
            World.cell? w (Addr.add a (Int.toNat p7_i * 1)) = some (Value.int IntKind.i64 n) ∧
              (decide (n > p1_cpu) = true →
                  ((0 : Int) ≤ p7_i ∧ p7_i < (↑p6_l_n : Int)) ∧
                    ∃ a,
                      p6_l_a = some a ∧
                        ∃ n,
                          World.cell? w (Addr.add a (Int.toNat p7_i * 1)) = some (Value.int IntKind.i64 n) ∧
                            R
                              (Ending.returned
                                (Value.tuple #[Value.int IntKind.i64 n, Value.int IntKind.i64 0]))
                              w) ∧
                (decide (n > p1_cpu) = false →
                  B21_1
                    [(0, SV.v (Value.int IntKind.u64 p0_m)), (1, SV.v (Value.int IntKind.i64 p1_cpu)),
                      (6, SV.v (Value.slice p6_l_a p6_l_n p6_l_c)),
                      (7, SV.v (Value.int IntKind.i64 (IntKind.wrap IntKind.i64 (p7_i + (1 : Int)))))]
                    w)) ∧
  (decide (p7_i < (↑p6_l_n : Int)) = false → CutD Tryd.prog M21 c21_0 (e21_0 p0_m) w (k21_0 R))) := by kernel_rfl
/-! davit/davitref01.Of -/
def M22 : Mt := { N := 18, keep := [(0, [0]), (1, [0, 3]), (2, [0, 3, 4]), (3, [0, 3, 4, 8]), (4, [0, 3, 4]), (5, [0, 3, 4]), (6, [2])], ords := [], bk := [(0, [3]), (1, [0, 3, 4])], cuts := [], lk := [(3, [0, 3, 4])] }
noncomputable def c22 : Code := bodyOf Tryd.f22
noncomputable def c22_0 : Code := c22.sr.sr.sr
noncomputable def c22_1 : Code := c22.sr.sr.sl.sr.sl.sl
def e22_1 (p0_l_a : Option Addr) (p0_l_n : Nat) (p0_l_c : Nat) (p3_m : Int) (p4_i : Int) : Env := [(0, SV.v (Value.slice p0_l_a p0_l_n p0_l_c)), (3, SV.v (Value.int IntKind.u64 p3_m)), (4, SV.v (Value.int IntKind.i64 p4_i))]
def k22_1 (R : Ending → World → Prop) : Cont := blockK 0 [3] (seqK (fun E w => cutB (findL M22.cuts (headReg c22_0)) Tryd.prog M22 c22_0 E w (retK Tryd.prog Tryd.f22.results.toList R) fun E => den Tryd.prog M22 c22_0 E w (retK Tryd.prog Tryd.f22.results.toList R)) (retK Tryd.prog Tryd.f22.results.toList R))
theorem b22 : Tryd.f22.body = some c22 := by kernel_rfl
theorem n22 : Tryd.f22.ntmps = M22.N := by kernel_rfl
theorem u22 {p0_l_a : Option Addr} {p0_l_n : Nat} {p0_l_c : Nat} {w : World} {R : Ending → World → Prop} (h : den Tryd.prog M22 c22 (argE 0 [(Value.slice p0_l_a p0_l_n p0_l_c)]) w (retK Tryd.prog Tryd.f22.results.toList R)) : Calls Tryd.prog 22 #[(Value.slice p0_l_a p0_l_n p0_l_c)] w R := calls_den okProg Tryd.func22 b22 n22 (Nat.le_of_ble_eq_true rfl) h
theorem t22 (p0_l_a : Option Addr) (p0_l_n : Nat) (p0_l_c : Nat) (w : World) (R : Ending → World → Prop) : den Tryd.prog M22 c22 (argE 0 [(Value.slice p0_l_a p0_l_n p0_l_c)]) w (retK Tryd.prog Tryd.f22.results.toList R) =
(Cut (WP Tryd.prog 18 (Code.loop c22_1) (e22_1 p0_l_a p0_l_n p0_l_c (0 : Int) (0 : Int)) w (k22_1 R))) := by kernel_rfl
theorem t22_1 (p0_l_a : Option Addr) (p0_l_n : Nat) (p0_l_c : Nat) (p3_m : Int) (p4_i : Int) (w : World) (B22_1 : Env → World → Prop) (R : Ending → World → Prop) : den Tryd.prog M22 c22_1 (e22_1 p0_l_a p0_l_n p0_l_c p3_m p4_i) w (loopK B22_1 (k22_1 R)) =
((decide (p4_i < (↑p0_l_n : Int)) = true →
    ((0 : Int) ≤ p4_i ∧ p4_i < (↑p0_l_n : Int)) ∧
      ∃ a,
        p0_l_a = some a ∧
          ∃ n,
            World.cell? w (Addr.add a (Int.toNat p4_i * 1)) = some (Value.int IntKind.i64 n) ∧
              Call Tryd.prog 28 [Value.int IntKind.u64 p3_m, Value.int IntKind.i64 n] w fun e w' =>
                ∃ n,
                  e = Ending.returned (Value.int IntKind.u64 n) ∧
                    B22_1
                      [(0, SV.v (Value.slice p0_l_a p0_l_n p0_l_c)),
                        (3, SV.v (Value.int IntKind.u64 n)),
                        (4, SV.v (Value.int IntKind.i64 (IntKind.wrap IntKind.i64 (p4_i + (1 : Int)))))]
                      w') ∧
  (decide (p4_i < (↑p0_l_n : Int)) = false → R (Ending.returned (Value.int IntKind.u64 p3_m)) w)) := by kernel_rfl
/-! davit/mask.one -/
def M23 : Mt := { N := 11, keep := [(0, [0]), (1, [0, 8]), (2, [2]), (3, [2])], ords := [], bk := [], cuts := [], lk := [] }
noncomputable def c23 : Code := bodyOf Tryd.f23
theorem b23 : Tryd.f23.body = some c23 := by kernel_rfl
theorem n23 : Tryd.f23.ntmps = M23.N := by kernel_rfl
theorem u23 {p0_cpu : Int} {w : World} {R : Ending → World → Prop} (h : den Tryd.prog M23 c23 (argE 0 [(Value.int IntKind.i64 p0_cpu)]) w (retK Tryd.prog Tryd.f23.results.toList R)) : Calls Tryd.prog 23 #[(Value.int IntKind.i64 p0_cpu)] w R := calls_den okProg Tryd.func23 b23 n23 (Nat.le_of_ble_eq_true rfl) h
theorem t23 (p0_cpu : Int) (w : World) (R : Ending → World → Prop) : den Tryd.prog M23 c23 (argE 0 [(Value.int IntKind.i64 p0_cpu)]) w (retK Tryd.prog Tryd.f23.results.toList R) =
((decide (p0_cpu < (0 : Int)) = false →
    (decide (p0_cpu ≥ (64 : Int)) = true → R (Ending.returned (Value.int IntKind.u64 0)) w) ∧
      (decide (p0_cpu ≥ (64 : Int)) = false →
        (0 : Int) ≤ p0_cpu ∧ R (Ending.returned (Value.int IntKind.u64 (shlOp IntKind.u64 (1 : Int) p0_cpu))) w)) ∧
  (decide (p0_cpu < (0 : Int)) = true → R (Ending.returned (Value.int IntKind.u64 0)) w)) := by kernel_rfl
/-! (davit/mask.Mask).First -/
def M24 : Mt := { N := 8, keep := [(0, [0]), (1, [0, 5]), (2, [2, 3]), (3, [2, 3])], ords := [], bk := [], cuts := [], lk := [] }
noncomputable def c24 : Code := bodyOf Tryd.f24
theorem b24 : Tryd.f24.body = some c24 := by kernel_rfl
theorem n24 : Tryd.f24.ntmps = M24.N := by kernel_rfl
theorem u24 {p0_m : Int} {w : World} {R : Ending → World → Prop} (h : den Tryd.prog M24 c24 (argE 0 [(Value.int IntKind.u64 p0_m)]) w (retK Tryd.prog Tryd.f24.results.toList R)) : Calls Tryd.prog 24 #[(Value.int IntKind.u64 p0_m)] w R := calls_den okProg Tryd.func24 b24 n24 (Nat.le_of_ble_eq_true rfl) h
theorem t24 (p0_m : Int) (w : World) (R : Ending → World → Prop) : den Tryd.prog M24 c24 (argE 0 [(Value.int IntKind.u64 p0_m)]) w (retK Tryd.prog Tryd.f24.results.toList R) =
(((p0_m == (0 : Int)) = true →
    R (Ending.returned (Value.tuple #[Value.int IntKind.i64 0, Value.int IntKind.i64 12])) w) ∧
  ((p0_m == (0 : Int)) = false →
    Call Tryd.prog 29 [Value.int IntKind.u64 p0_m] w fun e w' =>
      ∃ n,
        e = Ending.returned (Value.int IntKind.i64 n) ∧
          R (Ending.returned (Value.tuple #[Value.int IntKind.i64 n, Value.int IntKind.i64 0])) w')) := by kernel_rfl
/-! davit/mask.Upto -/
def M25 : Mt := { N := 12, keep := [(0, [0]), (1, [0, 3]), (2, [2]), (3, [0, 6]), (4, [2]), (5, [2])], ords := [], bk := [(0, [0])], cuts := [], lk := [] }
noncomputable def c25 : Code := bodyOf Tryd.f25
theorem b25 : Tryd.f25.body = some c25 := by kernel_rfl
theorem n25 : Tryd.f25.ntmps = M25.N := by kernel_rfl
theorem u25 {p0_n : Int} {w : World} {R : Ending → World → Prop} (h : den Tryd.prog M25 c25 (argE 0 [(Value.int IntKind.i64 p0_n)]) w (retK Tryd.prog Tryd.f25.results.toList R)) : Calls Tryd.prog 25 #[(Value.int IntKind.i64 p0_n)] w R := calls_den okProg Tryd.func25 b25 n25 (Nat.le_of_ble_eq_true rfl) h
theorem t25 (p0_n : Int) (w : World) (R : Ending → World → Prop) : den Tryd.prog M25 c25 (argE 0 [(Value.int IntKind.i64 p0_n)]) w (retK Tryd.prog Tryd.f25.results.toList R) =
((decide (p0_n ≤ (0 : Int)) = true → R (Ending.returned (Value.int IntKind.u64 0)) w) ∧
  (decide (p0_n ≤ (0 : Int)) = false →
    (decide (p0_n ≥ (64 : Int)) = true →
        R (Ending.returned (Value.int IntKind.u64 18446744073709551615)) w) ∧
      (decide (p0_n ≥ (64 : Int)) = false →
        Call Tryd.prog 23 [Value.int IntKind.i64 p0_n] w fun e w' =>
          ∃ n,
            e = Ending.returned (Value.int IntKind.u64 n) ∧
              R (Ending.returned (Value.int IntKind.u64 (IntKind.wrap IntKind.u64 (n - (1 : Int))))) w'))) := by kernel_rfl
/-! davit/davitref01.List -/
def M26 : Mt := { N := 17, keep := [(0, [0]), (1, [0, 3]), (2, [0, 3, 4]), (3, [0, 3, 4, 6]), (4, [0, 3, 4]), (5, [0, 3, 4, 11]), (6, [0, 3, 4]), (7, [2])], ords := [], bk := [(0, [3]), (1, [0, 3, 4])], cuts := [], lk := [(3, [0, 3, 4])] }
noncomputable def c26 : Code := bodyOf Tryd.f26
noncomputable def c26_0 : Code := c26.sr.sr.sr
noncomputable def c26_1 : Code := c26.sr.sr.sl.sr.sl.sl
def e26_1 (p0_m : Int) (p3_out_a : Option Addr) (p3_out_n : Nat) (p3_out_c : Nat) (p4_i : Int) : Env := [(0, SV.v (Value.int IntKind.u64 p0_m)), (3, SV.v (Value.slice p3_out_a p3_out_n p3_out_c)), (4, SV.v (Value.int IntKind.i64 p4_i))]
def k26_1 (R : Ending → World → Prop) : Cont := blockK 0 [3] (seqK (fun E w => cutB (findL M26.cuts (headReg c26_0)) Tryd.prog M26 c26_0 E w (retK Tryd.prog Tryd.f26.results.toList R) fun E => den Tryd.prog M26 c26_0 E w (retK Tryd.prog Tryd.f26.results.toList R)) (retK Tryd.prog Tryd.f26.results.toList R))
theorem b26 : Tryd.f26.body = some c26 := by kernel_rfl
theorem n26 : Tryd.f26.ntmps = M26.N := by kernel_rfl
theorem u26 {p0_m : Int} {w : World} {R : Ending → World → Prop} (h : den Tryd.prog M26 c26 (argE 0 [(Value.int IntKind.u64 p0_m)]) w (retK Tryd.prog Tryd.f26.results.toList R)) : Calls Tryd.prog 26 #[(Value.int IntKind.u64 p0_m)] w R := calls_den okProg Tryd.func26 b26 n26 (Nat.le_of_ble_eq_true rfl) h
theorem t26 (p0_m : Int) (w : World) (R : Ending → World → Prop) : den Tryd.prog M26 c26 (argE 0 [(Value.int IntKind.u64 p0_m)]) w (retK Tryd.prog Tryd.f26.results.toList R) =
(Cut (WP Tryd.prog 17 (Code.loop c26_1) (e26_1 p0_m none 0 0 (0 : Int)) w (k26_1 R))) := by kernel_rfl
theorem t26_1 (p0_m : Int) (p3_out_a : Option Addr) (p3_out_n : Nat) (p3_out_c : Nat) (p4_i : Int) (w : World) (B26_1 : Env → World → Prop) (R : Ending → World → Prop) : den Tryd.prog M26 c26_1 (e26_1 p0_m p3_out_a p3_out_n p3_out_c p4_i) w (loopK B26_1 (k26_1 R)) =
((decide (p4_i < (64 : Int)) = true →
    Call Tryd.prog 9 [Value.int IntKind.u64 p0_m, Value.int IntKind.i64 p4_i] w fun e w' =>
      ∃ b,
        e = Ending.returned (Value.bool b) ∧
          (b = true →
              New w' [Value.int IntKind.i64 p4_i] 3 fun p w' =>
                ∃ p_1 n c w'_1,
                  Sem.run Tryd.prog
                        (Builtin.append_ #[52, 52] 52
                          #[Value.slice p3_out_a p3_out_n p3_out_c, Value.slice (some p) 1 1])
                        w' =
                      Result.ok (Value.slice p_1 n c) w'_1 ∧
                    B26_1
                      [(0, SV.v (Value.int IntKind.u64 p0_m)), (3, SV.v (Value.slice p_1 n c)),
                        (4, SV.v (Value.int IntKind.i64 (IntKind.wrap IntKind.i64 (p4_i + (1 : Int)))))]
                      w'_1) ∧
            (b = false →
              B26_1
                [(0, SV.v (Value.int IntKind.u64 p0_m)),
                  (3, SV.v (Value.slice p3_out_a p3_out_n p3_out_c)),
                  (4, SV.v (Value.int IntKind.i64 (IntKind.wrap IntKind.i64 (p4_i + (1 : Int)))))]
                w')) ∧
  (decide (p4_i < (64 : Int)) = false → R (Ending.returned (Value.slice p3_out_a p3_out_n p3_out_c)) w)) := by kernel_rfl
/-! davit/davitref01.First -/
def M27 : Mt := { N := 13, keep := [(0, [0]), (1, [4]), (2, [4, 9]), (3, [2, 3]), (4, [2, 3])], ords := [], bk := [], cuts := [], lk := [] }
noncomputable def c27 : Code := bodyOf Tryd.f27
theorem b27 : Tryd.f27.body = some c27 := by kernel_rfl
theorem n27 : Tryd.f27.ntmps = M27.N := by kernel_rfl
theorem u27 {p0_m : Int} {w : World} {R : Ending → World → Prop} (h : den Tryd.prog M27 c27 (argE 0 [(Value.int IntKind.u64 p0_m)]) w (retK Tryd.prog Tryd.f27.results.toList R)) : Calls Tryd.prog 27 #[(Value.int IntKind.u64 p0_m)] w R := calls_den okProg Tryd.func27 b27 n27 (Nat.le_of_ble_eq_true rfl) h
theorem t27 (p0_m : Int) (w : World) (R : Ending → World → Prop) : den Tryd.prog M27 c27 (argE 0 [(Value.int IntKind.u64 p0_m)]) w (retK Tryd.prog Tryd.f27.results.toList R) =
(Call Tryd.prog 26 [Value.int IntKind.u64 p0_m] w fun e w' =>
  ∃ p n c,
    e = Ending.returned (Value.slice p n c) ∧
      (((↑n : Int) == (0 : Int)) = true →
          R (Ending.returned (Value.tuple #[Value.int IntKind.i64 0, Value.int IntKind.i64 12])) w') ∧
        (((↑n : Int) == (0 : Int)) = false →
          ((0 : Int) ≤ (0 : Int) ∧ (0 : Int) < (↑n : Int)) ∧
            ∃ a,
              p = some a ∧
                ∃ n,
                  World.cell? w' (Addr.add a 0) = some (Value.int IntKind.i64 n) ∧
                    R (Ending.returned (Value.tuple #[Value.int IntKind.i64 n, Value.int IntKind.i64 0])) w')) := by kernel_rfl
/-! davit/davitref01.With -/
def M28 : Mt := { N := 22, keep := [(0, [0, 1]), (1, [0, 1, 15]), (2, [4]), (3, [4])], ords := [], bk := [], cuts := [], lk := [] }
noncomputable def c28 : Code := bodyOf Tryd.f28
theorem b28 : Tryd.f28.body = some c28 := by kernel_rfl
theorem n28 : Tryd.f28.ntmps = M28.N := by kernel_rfl
theorem u28 {p0_m : Int} {p1_cpu : Int} {w : World} {R : Ending → World → Prop} (h : den Tryd.prog M28 c28 (argE 0 [(Value.int IntKind.u64 p0_m), (Value.int IntKind.i64 p1_cpu)]) w (retK Tryd.prog Tryd.f28.results.toList R)) : Calls Tryd.prog 28 #[(Value.int IntKind.u64 p0_m), (Value.int IntKind.i64 p1_cpu)] w R := calls_den okProg Tryd.func28 b28 n28 (Nat.le_of_ble_eq_true rfl) h
theorem t28 (p0_m : Int) (p1_cpu : Int) (w : World) (R : Ending → World → Prop) : den Tryd.prog M28 c28 (argE 0 [(Value.int IntKind.u64 p0_m), (Value.int IntKind.i64 p1_cpu)]) w (retK Tryd.prog Tryd.f28.results.toList R) =
((decide (p1_cpu < (0 : Int)) = false →
    (decide (p1_cpu > (63 : Int)) = false →
        Call Tryd.prog 9 [Value.int IntKind.u64 p0_m, Value.int IntKind.i64 p1_cpu] w fun e w' =>
          ∃ b,
            e = Ending.returned (Value.bool b) ∧
              (b = true → R (Ending.returned (Value.int IntKind.u64 p0_m)) w') ∧
                (b = false →
                  (0 : Int) ≤ IntKind.wrap IntKind.u64 p1_cpu ∧
                    R
                      (Ending.returned
                        (Value.int IntKind.u64
                          (IntKind.wrap IntKind.u64
                            (p0_m + shlOp IntKind.u64 (1 : Int) (IntKind.wrap IntKind.u64 p1_cpu)))))
                      w')) ∧
      (decide (p1_cpu > (63 : Int)) = true → R (Ending.returned (Value.int IntKind.u64 p0_m)) w)) ∧
  (decide (p1_cpu < (0 : Int)) = true → R (Ending.returned (Value.int IntKind.u64 p0_m)) w)) := by kernel_rfl
/-! math/bits.TrailingZeros64 -/
def M29 : Mt := { N := 14, keep := [(0, [0]), (1, [0, 4]), (2, [2]), (3, [2])], ords := [], bk := [], cuts := [], lk := [] }
noncomputable def c29 : Code := bodyOf Tryd.f29
theorem b29 : Tryd.f29.body = some c29 := by kernel_rfl
theorem n29 : Tryd.f29.ntmps = M29.N := by kernel_rfl
theorem u29 {p0_x : Int} {w : World} {R : Ending → World → Prop} (h : den Tryd.prog M29 c29 (argE 0 [(Value.int IntKind.u64 p0_x)]) w (retK Tryd.prog Tryd.f29.results.toList R)) : Calls Tryd.prog 29 #[(Value.int IntKind.u64 p0_x)] w R := calls_den okProg Tryd.func29 b29 n29 (Nat.le_of_ble_eq_true rfl) h
set_option maxRecDepth 100000 in
theorem t29 (p0_x : Int) (w : World) (R : Ending → World → Prop) : den Tryd.prog M29 c29 (argE 0 [(Value.int IntKind.u64 p0_x)]) w (retK Tryd.prog Tryd.f29.results.toList R) =
(((p0_x == (0 : Int)) = true → R (Ending.returned (Value.int IntKind.i64 64)) w) ∧
  ((p0_x == (0 : Int)) = false → (0 : Int) ≤ (58 : Int) ∧ ((0 : Int) ≤ shrOp IntKind.u64 (IntKind.wrap IntKind.u64 (bitsOp BinOp.and IntKind.u64 p0_x (IntKind.wrap IntKind.u64 (0 - p0_x)) * 285870213051353865)) 58 ∧ shrOp IntKind.u64 (IntKind.wrap IntKind.u64 (bitsOp BinOp.and IntKind.u64 p0_x (IntKind.wrap IntKind.u64 (0 - p0_x)) * 285870213051353865)) 58 < ((64 : Nat) : Int)) ∧
    ∃ n, World.cell? w (Addr.add ⟨0, 0, none⟩ (Int.toNat (shrOp IntKind.u64 (IntKind.wrap IntKind.u64 (bitsOp BinOp.and IntKind.u64 p0_x (IntKind.wrap IntKind.u64 (0 - p0_x)) * 285870213051353865)) 58) * 1)) = some (Value.int IntKind.u8 n) ∧ R (Ending.returned (Value.int IntKind.i64 (IntKind.wrap IntKind.i64 n))) w)) := by kernel_rfl
end Go.Dav
