/- What functions of the program come to. -/
import Derived.Test.YtfmehojcgdfghaaDoorPrg39
namespace Go.Dav
open Go.Proofs
/-! davit/davitlaw39.SpreadLoads -/
def M3 : Mt := { N := 65, keep := [(0, [0, 1, 2, 3]), (1, [0, 1, 2, 3, 17]), (2, [8]), (3, [0, 1, 2, 3, 9]), (4, [0, 1, 2, 3, 9, 22]), (5, [0, 1, 2, 3, 9]), (6, [0, 1, 2, 3, 9, 36]), (7, [8]), (8, [8])], ords := [], bk := [(0, [0, 1, 2, 3]), (1, [0, 1, 2, 3, 9])], cuts := [(8, [0, 1, 2, 3])], lk := [(4, [0, 1, 2, 3, 9])] }
noncomputable def c3 : Code := bodyOf Tryd.f3
noncomputable def c3_0 : Code := c3.sr.sr.sr
noncomputable def c3_1 : Code := c3.sr.sr.sl.sr.sl.sl
def e3_0 (p0_cpus : Int) (p1_l_a : Option Addr) (p1_l_n : Nat) (p1_l_c : Nat) (p2_loads_a : Option Addr) (p2_loads_n : Nat) (p2_loads_c : Nat) (p3_of : Int) : Env := [(0, SV.v (Value.int IntKind.i64 p0_cpus)), (1, SV.v (Value.slice p1_l_a p1_l_n p1_l_c)), (2, SV.v (Value.slice p2_loads_a p2_loads_n p2_loads_c)), (3, SV.v (Value.int IntKind.u64 p3_of))]
def e3_1 (p0_cpus : Int) (p1_l_a : Option Addr) (p1_l_n : Nat) (p1_l_c : Nat) (p2_loads_a : Option Addr) (p2_loads_n : Nat) (p2_loads_c : Nat) (p3_of : Int) (p9_i : Int) : Env := [(0, SV.v (Value.int IntKind.i64 p0_cpus)), (1, SV.v (Value.slice p1_l_a p1_l_n p1_l_c)), (2, SV.v (Value.slice p2_loads_a p2_loads_n p2_loads_c)), (3, SV.v (Value.int IntKind.u64 p3_of)), (9, SV.v (Value.int IntKind.i64 p9_i))]
def k3_0 (R : Ending → World → Prop) : Cont := retK Tryd.prog Tryd.f3.results.toList R
def k3_1 (R : Ending → World → Prop) : Cont := blockK 0 [0, 1, 2, 3] (seqK (fun E w => cutB (findL M3.cuts (headReg c3_0)) Tryd.prog M3 c3_0 E w (retK Tryd.prog Tryd.f3.results.toList R) fun E => den Tryd.prog M3 c3_0 E w (retK Tryd.prog Tryd.f3.results.toList R)) (retK Tryd.prog Tryd.f3.results.toList R))
theorem b3 : Tryd.f3.body = some c3 := by kernel_rfl
theorem n3 : Tryd.f3.ntmps = M3.N := by kernel_rfl
set_option maxRecDepth 100000 in
theorem u3 {p0_cpus : Int} {p1_l_a : Option Addr} {p1_l_n : Nat} {p1_l_c : Nat} {p2_loads_a : Option Addr} {p2_loads_n : Nat} {p2_loads_c : Nat} {p3_of : Int} {w : World} {R : Ending → World → Prop} (h : den Tryd.prog M3 c3 (argE 0 [(Value.int IntKind.i64 p0_cpus), (Value.slice p1_l_a p1_l_n p1_l_c), (Value.slice p2_loads_a p2_loads_n p2_loads_c), (Value.int IntKind.u64 p3_of)]) w (retK Tryd.prog Tryd.f3.results.toList R)) : Calls Tryd.prog 3 #[(Value.int IntKind.i64 p0_cpus), (Value.slice p1_l_a p1_l_n p1_l_c), (Value.slice p2_loads_a p2_loads_n p2_loads_c), (Value.int IntKind.u64 p3_of)] w R := calls_den okProg Tryd.func3 b3 n3 (Nat.le_of_ble_eq_true rfl) h
theorem t3 (p0_cpus : Int) (p1_l_a : Option Addr) (p1_l_n : Nat) (p1_l_c : Nat) (p2_loads_a : Option Addr) (p2_loads_n : Nat) (p2_loads_c : Nat) (p3_of : Int) (w : World) (R : Ending → World → Prop) : den Tryd.prog M3 c3 (argE 0 [(Value.int IntKind.i64 p0_cpus), (Value.slice p1_l_a p1_l_n p1_l_c), (Value.slice p2_loads_a p2_loads_n p2_loads_c), (Value.int IntKind.u64 p3_of)]) w (retK Tryd.prog Tryd.f3.results.toList R) =
((decide ((↑p1_l_n : Int) > (100 : Int)) = false →
    (decide ((↑p2_loads_n : Int) > (100 : Int)) = true →
        Call Tryd.prog 7 [] w fun e w' =>
          ∃ b, e = Ending.returned (Value.bool b) ∧ R (Ending.returned (Value.bool b)) w') ∧
      (decide ((↑p2_loads_n : Int) > (100 : Int)) = false →
        Cut
          (WP Tryd.prog 65 (Code.loop c3_1)
            (e3_1 p0_cpus p1_l_a p1_l_n p1_l_c p2_loads_a p2_loads_n p2_loads_c p3_of (0 : Int)) w
            (k3_1 R)))) ∧
  (decide ((↑p1_l_n : Int) > (100 : Int)) = true →
    Call Tryd.prog 7 [] w fun e w' =>
      ∃ b, e = Ending.returned (Value.bool b) ∧ R (Ending.returned (Value.bool b)) w')) := by kernel_rfl
theorem t3_0 (p0_cpus : Int) (p1_l_a : Option Addr) (p1_l_n : Nat) (p1_l_c : Nat) (p2_loads_a : Option Addr) (p2_loads_n : Nat) (p2_loads_c : Nat) (p3_of : Int) (w : World) (R : Ending → World → Prop) : den Tryd.prog M3 c3_0 (e3_0 p0_cpus p1_l_a p1_l_n p1_l_c p2_loads_a p2_loads_n p2_loads_c p3_of) w (k3_0 R) =
(Call Tryd.prog 10 [Value.slice p1_l_a p1_l_n p1_l_c] w fun e w' =>
  ∃ p n c,
    e = Ending.returned (Value.slice p n c) ∧
      Call Tryd.prog 9 [Value.int IntKind.i64 p0_cpus, Value.slice p n c] w' fun e w' =>
        ∃ p n c,
          e = Ending.returned (Value.slice p n c) ∧
            Call Tryd.prog 11 [Value.int IntKind.i64 p0_cpus, Value.slice p1_l_a p1_l_n p1_l_c] w'
              fun e w' =>
              ∃ p_1 n_1 c_1,
                e = Ending.returned (Value.slice p_1 n_1 c_1) ∧
                  Call Tryd.prog 8 [Value.slice p n c, Value.slice p_1 n_1 c_1] w' fun e w' =>
                    ∃ b,
                      e = Ending.returned (Value.bool b) ∧
                        (b = true →
                            Call Tryd.prog 12
                              [Value.slice p2_loads_a p2_loads_n p2_loads_c, Value.int IntKind.u64 p3_of] w'
                              fun e w' =>
                              ∃ n,
                                e = Ending.returned (Value.int IntKind.i64 n) ∧
                                  Call Tryd.prog 13
                                    [Value.slice p2_loads_a p2_loads_n p2_loads_c, Value.int IntKind.u64 p3_of] w'
                                    fun e w' =>
                                    ∃ n_2,
                                      e = Ending.returned (Value.int IntKind.i64 n_2) ∧
                                        ((n == n_2) = true →
                                            Call Tryd.prog 14 [Value.slice p2_loads_a p2_loads_n p2_loads_c]
                                              w' fun e w' =>
                                              ∃ n,
                                                e = Ending.returned (Value.int IntKind.i64 n) ∧
                                                  Call Tryd.prog 15
                                                    [Value.slice p2_loads_a p2_loads_n p2_loads_c] w' fun e w' =>
                                                    ∃ n_3,
                                                      e = Ending.returned (Value.int IntKind.i64 n_3) ∧
                                                        ((n == n_3) = true →
                                                            Call Tryd.prog 7 [] w' fun e w' =>
                                                              ∃ b,
                                                                e = Ending.returned (Value.bool b) ∧
                                                                  R (Ending.returned (Value.bool b)) w') ∧
                                                          ((n == n_3) = false →
                                                            R (Ending.returned (Value.bool false)) w')) ∧
                                          ((n == n_2) = false → R (Ending.returned (Value.bool false)) w')) ∧
                          (b = false → R (Ending.returned (Value.bool false)) w')) := by kernel_rfl
theorem t3_1 (p0_cpus : Int) (p1_l_a : Option Addr) (p1_l_n : Nat) (p1_l_c : Nat) (p2_loads_a : Option Addr) (p2_loads_n : Nat) (p2_loads_c : Nat) (p3_of : Int) (p9_i : Int) (w : World) (B3_1 : Env → World → Prop) (R : Ending → World → Prop) : den Tryd.prog M3 c3_1 (e3_1 p0_cpus p1_l_a p1_l_n p1_l_c p2_loads_a p2_loads_n p2_loads_c p3_of p9_i) w (loopK B3_1 (k3_1 R)) =
((decide (p9_i < (↑p2_loads_n : Int)) = true →
    ((0 : Int) ≤ p9_i ∧ p9_i < (↑p2_loads_n : Int)) ∧
      ∃ a,
        p2_loads_a = some a ∧
          ∃ n,
            World.cell? w (Addr.add a (Int.toNat p9_i * 1)) = some (Value.int IntKind.i64 n) ∧
              (decide (n < (-1073741824 : Int)) = false →
                  ((0 : Int) ≤ p9_i ∧ p9_i < (↑p2_loads_n : Int)) ∧
                    ∃ a,
                      p2_loads_a = some a ∧
                        ∃ n,
                          World.cell? w (Addr.add a (Int.toNat p9_i * 1)) = some (Value.int IntKind.i64 n) ∧
                            (decide (n > (1073741824 : Int)) = true →
                                Call Tryd.prog 7 [] w fun e w' =>
                                  ∃ b, e = Ending.returned (Value.bool b) ∧ R (Ending.returned (Value.bool b)) w') ∧
                              (decide (n > (1073741824 : Int)) = false →
                                B3_1
                                  [(0, SV.v (Value.int IntKind.i64 p0_cpus)),
                                    (1, SV.v (Value.slice p1_l_a p1_l_n p1_l_c)),
                                    (2, SV.v (Value.slice p2_loads_a p2_loads_n p2_loads_c)),
                                    (3, SV.v (Value.int IntKind.u64 p3_of)),
                                    (9,
                                      SV.v (Value.int IntKind.i64 (IntKind.wrap IntKind.i64 (p9_i + (1 : Int)))))]
                                  w)) ∧
                (decide (n < (-1073741824 : Int)) = true →
                  Call Tryd.prog 7 [] w fun e w' =>
                    ∃ b, e = Ending.returned (Value.bool b) ∧ R (Ending.returned (Value.bool b)) w')) ∧
  (decide (p9_i < (↑p2_loads_n : Int)) = false →
    CutD Tryd.prog M3 c3_0 (e3_0 p0_cpus p1_l_a p1_l_n p1_l_c p2_loads_a p2_loads_n p2_loads_c p3_of) w
      (k3_0 R))) := by kernel_rfl
/-! davit/davitlaw39.SpreadPlans -/
def M4 : Mt := { N := 78, keep := [(0, [0, 1, 2, 3]), (1, [0, 1, 2, 3, 24]), (2, [8]), (3, [0, 1, 2, 3, 9, 10]), (4, [2, 3, 9, 10, 11, 12]), (5, [2, 3, 9, 10, 11, 12, 13, 14]), (6, [9, 10, 11, 12, 13, 14, 15, 16]), (7, [8])], ords := [], bk := [], cuts := [], lk := [] }
noncomputable def c4 : Code := bodyOf Tryd.f4
theorem b4 : Tryd.f4.body = some c4 := by kernel_rfl
theorem n4 : Tryd.f4.ntmps = M4.N := by kernel_rfl
set_option maxRecDepth 100000 in
theorem u4 {p0_cpus : Int} {p1_active : Int} {p2_l_a : Option Addr} {p2_l_n : Nat} {p2_l_c : Nat} {p3_moves_a : Option Addr} {p3_moves_n : Nat} {p3_moves_c : Nat} {w : World} {R : Ending → World → Prop} (h : den Tryd.prog M4 c4 (argE 0 [(Value.int IntKind.i64 p0_cpus), (Value.int IntKind.u64 p1_active), (Value.slice p2_l_a p2_l_n p2_l_c), (Value.slice p3_moves_a p3_moves_n p3_moves_c)]) w (retK Tryd.prog Tryd.f4.results.toList R)) : Calls Tryd.prog 4 #[(Value.int IntKind.i64 p0_cpus), (Value.int IntKind.u64 p1_active), (Value.slice p2_l_a p2_l_n p2_l_c), (Value.slice p3_moves_a p3_moves_n p3_moves_c)] w R := calls_den okProg Tryd.func4 b4 n4 (Nat.le_of_ble_eq_true rfl) h
theorem t4 (p0_cpus : Int) (p1_active : Int) (p2_l_a : Option Addr) (p2_l_n : Nat) (p2_l_c : Nat) (p3_moves_a : Option Addr) (p3_moves_n : Nat) (p3_moves_c : Nat) (w : World) (R : Ending → World → Prop) : den Tryd.prog M4 c4 (argE 0 [(Value.int IntKind.i64 p0_cpus), (Value.int IntKind.u64 p1_active), (Value.slice p2_l_a p2_l_n p2_l_c), (Value.slice p3_moves_a p3_moves_n p3_moves_c)]) w (retK Tryd.prog Tryd.f4.results.toList R) =
((decide ((↑p2_l_n : Int) > (70 : Int)) = false →
    (decide ((↑p3_moves_n : Int) > (100 : Int)) = true →
        Call Tryd.prog 7 [] w fun e w' =>
          ∃ b, e = Ending.returned (Value.bool b) ∧ R (Ending.returned (Value.bool b)) w') ∧
      (decide ((↑p3_moves_n : Int) > (100 : Int)) = false →
        Call Tryd.prog 10 [Value.slice p2_l_a p2_l_n p2_l_c] w fun e w' =>
          ∃ p n c,
            e = Ending.returned (Value.slice p n c) ∧
              Call Tryd.prog 16
                [Value.int IntKind.i64 p0_cpus, Value.int IntKind.u64 p1_active, Value.slice p n c] w' fun e w' =>
                ∃ p n c n_1,
                  e = Ending.returned (Value.tuple #[Value.slice p n c, Value.int IntKind.i64 n_1]) ∧
                    Call Tryd.prog 17
                      [Value.int IntKind.i64 p0_cpus, Value.int IntKind.u64 p1_active,
                        Value.slice p2_l_a p2_l_n p2_l_c]
                      w' fun e w' =>
                      ∃ p_1 n_2 c_1 n_3,
                        e = Ending.returned (Value.tuple #[Value.slice p_1 n_2 c_1, Value.int IntKind.i64 n_3]) ∧
                          Call Tryd.prog 10 [Value.slice p2_l_a p2_l_n p2_l_c] w' fun e w' =>
                            ∃ p_2 n_4 c_2,
                              e = Ending.returned (Value.slice p_2 n_4 c_2) ∧
                                Call Tryd.prog 19 [Value.slice p3_moves_a p3_moves_n p3_moves_c] w'
                                  fun e w' =>
                                  ∃ p_3 n_5 c_3,
                                    e = Ending.returned (Value.slice p_3 n_5 c_3) ∧
                                      Call Tryd.prog 18 [Value.slice p_2 n_4 c_2, Value.slice p_3 n_5 c_3] w'
                                        fun e w' =>
                                        ∃ p_4 n_6 c_4 n_7,
                                          e =
                                              Ending.returned
                                                (Value.tuple #[Value.slice p_4 n_6 c_4, Value.int IntKind.i64 n_7]) ∧
                                            Call Tryd.prog 20
                                              [Value.slice p2_l_a p2_l_n p2_l_c,
                                                Value.slice p3_moves_a p3_moves_n p3_moves_c]
                                              w' fun e w' =>
                                              ∃ p_5 n_8 c_5 n_9,
                                                e =
                                                    Ending.returned
                                                      (Value.tuple
                                                        #[Value.slice p_5 n_8 c_5, Value.int IntKind.i64 n_9]) ∧
                                                  Call Tryd.prog 22 [Value.slice p n c] w' fun e w' =>
                                                    ∃ p n c,
                                                      e = Ending.returned (Value.slice p n c) ∧
                                                        Call Tryd.prog 21
                                                          [Value.slice p n c, Value.slice p_1 n_2 c_1] w' fun e w' =>
                                                          ∃ b,
                                                            e = Ending.returned (Value.bool b) ∧
                                                              (b = true →
                                                                  ((n_1 == n_3) = true →
                                                                      Call Tryd.prog 24
                                                                        [Value.slice p_4 n_6 c_4] w' fun e w' =>
                                                                        ∃ p n c,
                                                                          e = Ending.returned (Value.slice p n c) ∧
                                                                            Call Tryd.prog 23
                                                                              [Value.slice p n c,
                                                                                Value.slice p_5 n_8 c_5]
                                                                              w' fun e w' =>
                                                                              ∃ b,
                                                                                e = Ending.returned (Value.bool b) ∧
                                                                                  (b = true →
                                                                                      ((n_7 == n_9) = true →
                                                                                          Call Tryd.prog 7 [] w'
                                                                                            fun e w' =>
                                                                                            ∃ b,
                                                                                              e =
                                                                                                  Ending.returned
                                                                                                    (Value.bool b) ∧
                                                                                                R
                                                                                                  (Ending.returned
                                                                                                    (Value.bool b))
                                                                                                  w') ∧
                                                                                        ((n_7 == n_9) = false →
                                                                                          R
                                                                                            (Ending.returned
                                                                                              (Value.bool false))
                                                                                            w')) ∧
                                                                                    (b = false →
                                                                                      R
                                                                                        (Ending.returned
                                                                                          (Value.bool false))
                                                                                        w')) ∧
                                                                    ((n_1 == n_3) = false →
                                                                      R (Ending.returned (Value.bool false)) w')) ∧
                                                                (b = false →
                                                                  R (Ending.returned (Value.bool false)) w'))) ∧
  (decide ((↑p2_l_n : Int) > (70 : Int)) = true →
    Call Tryd.prog 7 [] w fun e w' =>
      ∃ b, e = Ending.returned (Value.bool b) ∧ R (Ending.returned (Value.bool b)) w')) := by kernel_rfl
/-! davit/davitlaw39.SpreadEven -/
def M5 : Mt := { N := 76, keep := [(0, [0, 1, 2]), (1, [0, 1, 2, 16]), (2, [6]), (3, [0, 1, 2, 7]), (4, [0, 1, 2, 7, 8]), (5, [0, 1, 2, 7, 8, 21]), (6, [0, 1, 2, 7, 8]), (7, [0, 1, 2, 7, 8]), (8, [0, 1, 9]), (9, [0, 1, 9, 10, 11]), (10, [0, 1, 9, 10, 55]), (11, [6]), (12, [0, 1, 12, 13]), (13, [6])], ords := [(7, [0, 1, 2, 3, 4, 5, 6, 7, 8, 9, 10, 11, 12, 13, 14, 15, 16, 17, 18, 19, 20, 21])], bk := [(0, [0, 1, 7]), (1, [0, 1, 2, 7, 8])], cuts := [(8, [0, 1, 7])], lk := [(5, [0, 1, 2, 7, 8])] }
noncomputable def c5 : Code := bodyOf Tryd.f5
noncomputable def c5_0 : Code := c5.sr.sr.sr.sr
noncomputable def c5_1 : Code := c5.sr.sr.sr.sl.sr.sl.sl
def e5_0 (p0_cpus : Int) (p1_active : Int) (p7_all_a : Option Addr) (p7_all_n : Nat) (p7_all_c : Nat) : Env := [(0, SV.v (Value.int IntKind.i64 p0_cpus)), (1, SV.v (Value.int IntKind.u64 p1_active)), (7, SV.v (Value.slice p7_all_a p7_all_n p7_all_c))]
def e5_1 (p0_cpus : Int) (p1_active : Int) (p2_l_a : Option Addr) (p2_l_n : Nat) (p2_l_c : Nat) (p7_all_a : Option Addr) (p7_all_n : Nat) (p7_all_c : Nat) (p8_i : Int) : Env := [(0, SV.v (Value.int IntKind.i64 p0_cpus)), (1, SV.v (Value.int IntKind.u64 p1_active)), (2, SV.v (Value.slice p2_l_a p2_l_n p2_l_c)), (7, SV.v (Value.slice p7_all_a p7_all_n p7_all_c)), (8, SV.v (Value.int IntKind.i64 p8_i))]
def k5_0 (R : Ending → World → Prop) : Cont := retK Tryd.prog Tryd.f5.results.toList R
def k5_1 (R : Ending → World → Prop) : Cont := blockK 0 [0, 1, 7] (seqK (fun E w => cutB (findL M5.cuts (headReg c5_0)) Tryd.prog M5 c5_0 E w (retK Tryd.prog Tryd.f5.results.toList R) fun E => den Tryd.prog M5 c5_0 E w (retK Tryd.prog Tryd.f5.results.toList R)) (retK Tryd.prog Tryd.f5.results.toList R))
theorem b5 : Tryd.f5.body = some c5 := by kernel_rfl
theorem n5 : Tryd.f5.ntmps = M5.N := by kernel_rfl
set_option maxRecDepth 100000 in
theorem u5 {p0_cpus : Int} {p1_active : Int} {p2_l_a : Option Addr} {p2_l_n : Nat} {p2_l_c : Nat} {w : World} {R : Ending → World → Prop} (h : den Tryd.prog M5 c5 (argE 0 [(Value.int IntKind.i64 p0_cpus), (Value.int IntKind.u64 p1_active), (Value.slice p2_l_a p2_l_n p2_l_c)]) w (retK Tryd.prog Tryd.f5.results.toList R)) : Calls Tryd.prog 5 #[(Value.int IntKind.i64 p0_cpus), (Value.int IntKind.u64 p1_active), (Value.slice p2_l_a p2_l_n p2_l_c)] w R := calls_den okProg Tryd.func5 b5 n5 (Nat.le_of_ble_eq_true rfl) h
theorem t5 (p0_cpus : Int) (p1_active : Int) (p2_l_a : Option Addr) (p2_l_n : Nat) (p2_l_c : Nat) (w : World) (R : Ending → World → Prop) : den Tryd.prog M5 c5 (argE 0 [(Value.int IntKind.i64 p0_cpus), (Value.int IntKind.u64 p1_active), (Value.slice p2_l_a p2_l_n p2_l_c)]) w (retK Tryd.prog Tryd.f5.results.toList R) =
((decide ((↑p2_l_n : Int) > (64 : Int)) = true →
    Call Tryd.prog 7 [] w fun e w' =>
      ∃ b, e = Ending.returned (Value.bool b) ∧ R (Ending.returned (Value.bool b)) w') ∧
  (decide ((↑p2_l_n : Int) > (64 : Int)) = false →
    Cut
      (WP Tryd.prog 76 (Code.loop c5_1)
        (e5_1 p0_cpus p1_active p2_l_a p2_l_n p2_l_c none 0 0 (0 : Int)) w (k5_1 R)))) := by kernel_rfl
theorem t5_0 (p0_cpus : Int) (p1_active : Int) (p7_all_a : Option Addr) (p7_all_n : Nat) (p7_all_c : Nat) (w : World) (R : Ending → World → Prop) : den Tryd.prog M5 c5_0 (e5_0 p0_cpus p1_active p7_all_a p7_all_n p7_all_c) w (k5_0 R) =
(Call Tryd.prog 10 [Value.slice p7_all_a p7_all_n p7_all_c] w fun e w' =>
  ∃ p n c,
    e = Ending.returned (Value.slice p n c) ∧
      Call Tryd.prog 16 [Value.int IntKind.i64 p0_cpus, Value.int IntKind.u64 p1_active, Value.slice p n c] w'
        fun e w' =>
        ∃ p_1 n_1 c_1 n_2,
          e = Ending.returned (Value.tuple #[Value.slice p_1 n_1 c_1, Value.int IntKind.i64 n_2]) ∧
            ((n_2 != (0 : Int)) = true →
                Call Tryd.prog 7 [] w' fun e w' =>
                  ∃ b, e = Ending.returned (Value.bool b) ∧ R (Ending.returned (Value.bool b)) w') ∧
              ((n_2 != (0 : Int)) = false →
                Call Tryd.prog 18 [Value.slice p n c, Value.slice p_1 n_1 c_1] w' fun e w' =>
                  ∃ p n c n_3,
                    e = Ending.returned (Value.tuple #[Value.slice p n c, Value.int IntKind.i64 n_3]) ∧
                      ((n_3 == (0 : Int)) = true →
                          Call Tryd.prog 9 [Value.int IntKind.i64 p0_cpus, Value.slice p n c] w' fun e w' =>
                            ∃ p n c,
                              e = Ending.returned (Value.slice p n c) ∧
                                Call Tryd.prog 12 [Value.slice p n c, Value.int IntKind.u64 p1_active] w'
                                  fun e w' =>
                                  ∃ n,
                                    e = Ending.returned (Value.int IntKind.i64 n) ∧
                                      (decide (n ≤ (1 : Int)) = true →
                                          Call Tryd.prog 7 [] w' fun e w' =>
                                            ∃ b,
                                              e = Ending.returned (Value.bool b) ∧
                                                R (Ending.returned (Value.bool b)) w') ∧
                                        (decide (n ≤ (1 : Int)) = false → R (Ending.returned (Value.bool false)) w')) ∧
                        ((n_3 == (0 : Int)) = false → R (Ending.returned (Value.bool false)) w'))) := by kernel_rfl
theorem t5_1 (p0_cpus : Int) (p1_active : Int) (p2_l_a : Option Addr) (p2_l_n : Nat) (p2_l_c : Nat) (p7_all_a : Option Addr) (p7_all_n : Nat) (p7_all_c : Nat) (p8_i : Int) (w : World) (B5_1 : Env → World → Prop) (R : Ending → World → Prop) : den Tryd.prog M5 c5_1 (e5_1 p0_cpus p1_active p2_l_a p2_l_n p2_l_c p7_all_a p7_all_n p7_all_c p8_i) w (loopK B5_1 (k5_1 R)) =
((decide (p8_i < (↑p2_l_n : Int)) = true →
    ∀ (w' : World),
      World.heap w' = World.heap w →
        World.os w' = World.os w →
          World.tape w' = World.tape w →
            World.output w' = World.output w →
              ((0 : Int) ≤ p8_i ∧ p8_i < (↑p2_l_n : Int)) ∧
                ∃ a,
                  p2_l_a = some a ∧
                    ∃ n,
                      World.cell? w' (Addr.add (Addr.add a (Int.toNat p8_i * 3)) 0) =
                          some (Value.int IntKind.i64 n) ∧
                        ((0 : Int) ≤ p8_i ∧ p8_i < (↑p2_l_n : Int)) ∧
                          ∃ a,
                            p2_l_a = some a ∧
                              ∃ n_1,
                                World.cell? w' (Addr.add (Addr.add a (Int.toNat p8_i * 3)) 1) =
                                    some (Value.int IntKind.i64 n_1) ∧
                                  ((0 : Int) ≤ p8_i ∧ p8_i < (↑p2_l_n : Int)) ∧
                                    ∃ a,
                                      p2_l_a = some a ∧
                                        ∃ n_2,
                                          World.cell? w'
                                                (Addr.add (Addr.add a (Int.toNat p8_i * 3)) 2) =
                                              some (Value.int IntKind.u64 n_2) ∧
                                            New w'
                                              [Value.int IntKind.i64 n, Value.int IntKind.i64 n_1,
                                                Value.int IntKind.u64 (bitsOp BinOp.or IntKind.u64 p1_active n_2)]
                                              54 fun p w' =>
                                              ∃ p_1 n c w'_1,
                                                Sem.run Tryd.prog
                                                      (Builtin.append_ #[22, 22] 22
                                                        #[Value.slice p7_all_a p7_all_n p7_all_c,
                                                          Value.slice (some p) 1 1])
                                                      w' =
                                                    Result.ok (Value.slice p_1 n c) w'_1 ∧
                                                  B5_1
                                                    [(0, SV.v (Value.int IntKind.i64 p0_cpus)),
                                                      (1, SV.v (Value.int IntKind.u64 p1_active)),
                                                      (2, SV.v (Value.slice p2_l_a p2_l_n p2_l_c)),
                                                      (7, SV.v (Value.slice p_1 n c)),
                                                      (8,
                                                        SV.v
                                                          (Value.int IntKind.i64
                                                            (IntKind.wrap IntKind.i64 (p8_i + (1 : Int)))))]
                                                    w'_1) ∧
  (decide (p8_i < (↑p2_l_n : Int)) = false →
    CutD Tryd.prog M5 c5_0 (e5_0 p0_cpus p1_active p7_all_a p7_all_n p7_all_c) w (k5_0 R))) := by kernel_rfl
/-! davit/davitlaw39.SpreadLess -/
def M6 : Mt := { N := 94, keep := [(0, [0, 1, 2]), (1, [0, 1, 2, 17]), (2, [6]), (3, [0, 1, 7]), (4, [0, 7, 8, 9]), (5, [0, 7, 8, 29]), (6, [6]), (7, [0, 7, 8, 10]), (8, [0, 7, 8, 10, 34]), (9, [0, 7, 8, 10]), (10, [0, 7, 8, 10, 11]), (11, [0, 8, 10, 11, 12, 13]), (12, [0, 8, 10, 12, 60]), (13, [6]), (14, [0, 8, 10, 12, 14]), (15, [0, 8, 10, 12, 14, 64]), (16, [0, 8, 10, 12, 14]), (17, [0, 8, 10, 12, 14, 91]), (18, [6]), (19, [0, 7, 8, 10]), (20, [6])], ords := [(17, [0, 1, 2, 3, 4, 5, 6, 7, 8, 9, 10, 11, 12, 13, 14, 15, 16, 17, 18, 19, 20, 21, 22, 23, 24])], bk := [(0, []), (1, [0, 7, 8, 10]), (2, [0, 8, 10, 12]), (3, [0, 8, 10, 12, 14])], cuts := [(20, [])], lk := [(8, [0, 7, 8, 10]), (15, [0, 8, 10, 12, 14])] }
noncomputable def c6 : Code := bodyOf Tryd.f6
noncomputable def c6_0 : Code := c6.sr.sr.sr.sr.sr.sr
noncomputable def c6_1 : Code := c6.sr.sr.sr.sr.sr.sl.sr.sl.sl
noncomputable def c6_2 : Code := c6.sr.sr.sr.sr.sr.sl.sr.sl.sl.sr.sr
noncomputable def c6_3 : Code := c6.sr.sr.sr.sr.sr.sl.sr.sl.sl.sr.sl.sl.sr.sr.sr.sr
noncomputable def c6_4 : Code := c6.sr.sr.sr.sr.sr.sl.sr.sl.sl.sr.sl.sl.sr.sr.sr.sl.sr.sl.sl
def e6_0  : Env := []
def e6_1 (p0_cpus : Int) (p7_x_a : Option Addr) (p7_x_n : Nat) (p7_x_c : Nat) (p8_m_a : Option Addr) (p8_m_n : Nat) (p8_m_c : Nat) (p10_i : Int) : Env := [(0, SV.v (Value.int IntKind.i64 p0_cpus)), (7, SV.v (Value.slice p7_x_a p7_x_n p7_x_c)), (8, SV.v (Value.slice p8_m_a p8_m_n p8_m_c)), (10, SV.v (Value.int IntKind.i64 p10_i))]
def e6_4 (p0_cpus : Int) (p8_m_a : Option Addr) (p8_m_n : Nat) (p8_m_c : Nat) (p10_i : Int) (p12_y_a : Option Addr) (p12_y_n : Nat) (p12_y_c : Nat) (p14_k : Int) : Env := [(0, SV.v (Value.int IntKind.i64 p0_cpus)), (8, SV.v (Value.slice p8_m_a p8_m_n p8_m_c)), (10, SV.v (Value.int IntKind.i64 p10_i)), (12, SV.v (Value.slice p12_y_a p12_y_n p12_y_c)), (14, SV.v (Value.int IntKind.i64 p14_k))]
def k6_0 (R : Ending → World → Prop) : Cont := retK Tryd.prog Tryd.f6.results.toList R
def k6_1 (R : Ending → World → Prop) : Cont := blockK 0 [] (seqK (fun E w => cutB (findL M6.cuts (headReg c6_0)) Tryd.prog M6 c6_0 E w (retK Tryd.prog Tryd.f6.results.toList R) fun E => den Tryd.prog M6 c6_0 E w (retK Tryd.prog Tryd.f6.results.toList R)) (retK Tryd.prog Tryd.f6.results.toList R))
def k6_4 (B6_1 : Env → World → Prop) (R : Ending → World → Prop) : Cont := blockK 2 [0, 8, 10, 12] (seqK (fun E w => cutB (findL M6.cuts (headReg c6_3)) Tryd.prog M6 c6_3 E w (blockK 1 [0, 7, 8, 10] (seqK (fun E w => cutB (findL M6.cuts (headReg c6_2)) Tryd.prog M6 c6_2 E w (loopK B6_1 (blockK 0 [] (seqK (fun E w => cutB (findL M6.cuts (headReg c6_0)) Tryd.prog M6 c6_0 E w (retK Tryd.prog Tryd.f6.results.toList R) fun E => den Tryd.prog M6 c6_0 E w (retK Tryd.prog Tryd.f6.results.toList R)) (retK Tryd.prog Tryd.f6.results.toList R)))) fun E => den Tryd.prog M6 c6_2 E w (loopK B6_1 (blockK 0 [] (seqK (fun E w => cutB (findL M6.cuts (headReg c6_0)) Tryd.prog M6 c6_0 E w (retK Tryd.prog Tryd.f6.results.toList R) fun E => den Tryd.prog M6 c6_0 E w (retK Tryd.prog Tryd.f6.results.toList R)) (retK Tryd.prog Tryd.f6.results.toList R))))) (loopK B6_1 (blockK 0 [] (seqK (fun E w => cutB (findL M6.cuts (headReg c6_0)) Tryd.prog M6 c6_0 E w (retK Tryd.prog Tryd.f6.results.toList R) fun E => den Tryd.prog M6 c6_0 E w (retK Tryd.prog Tryd.f6.results.toList R)) (retK Tryd.prog Tryd.f6.results.toList R)))))) fun E => den Tryd.prog M6 c6_3 E w (blockK 1 [0, 7, 8, 10] (seqK (fun E w => cutB (findL M6.cuts (headReg c6_2)) Tryd.prog M6 c6_2 E w (loopK B6_1 (blockK 0 [] (seqK (fun E w => cutB (findL M6.cuts (headReg c6_0)) Tryd.prog M6 c6_0 E w (retK Tryd.prog Tryd.f6.results.toList R) fun E => den Tryd.prog M6 c6_0 E w (retK Tryd.prog Tryd.f6.results.toList R)) (retK Tryd.prog Tryd.f6.results.toList R)))) fun E => den Tryd.prog M6 c6_2 E w (loopK B6_1 (blockK 0 [] (seqK (fun E w => cutB (findL M6.cuts (headReg c6_0)) Tryd.prog M6 c6_0 E w (retK Tryd.prog Tryd.f6.results.toList R) fun E => den Tryd.prog M6 c6_0 E w (retK Tryd.prog Tryd.f6.results.toList R)) (retK Tryd.prog Tryd.f6.results.toList R))))) (loopK B6_1 (blockK 0 [] (seqK (fun E w => cutB (findL M6.cuts (headReg c6_0)) Tryd.prog M6 c6_0 E w (retK Tryd.prog Tryd.f6.results.toList R) fun E => den Tryd.prog M6 c6_0 E w (retK Tryd.prog Tryd.f6.results.toList R)) (retK Tryd.prog Tryd.f6.results.toList R))))))) (blockK 1 [0, 7, 8, 10] (seqK (fun E w => cutB (findL M6.cuts (headReg c6_2)) Tryd.prog M6 c6_2 E w (loopK B6_1 (blockK 0 [] (seqK (fun E w => cutB (findL M6.cuts (headReg c6_0)) Tryd.prog M6 c6_0 E w (retK Tryd.prog Tryd.f6.results.toList R) fun E => den Tryd.prog M6 c6_0 E w (retK Tryd.prog Tryd.f6.results.toList R)) (retK Tryd.prog Tryd.f6.results.toList R)))) fun E => den Tryd.prog M6 c6_2 E w (loopK B6_1 (blockK 0 [] (seqK (fun E w => cutB (findL M6.cuts (headReg c6_0)) Tryd.prog M6 c6_0 E w (retK Tryd.prog Tryd.f6.results.toList R) fun E => den Tryd.prog M6 c6_0 E w (retK Tryd.prog Tryd.f6.results.toList R)) (retK Tryd.prog Tryd.f6.results.toList R))))) (loopK B6_1 (blockK 0 [] (seqK (fun E w => cutB (findL M6.cuts (headReg c6_0)) Tryd.prog M6 c6_0 E w (retK Tryd.prog Tryd.f6.results.toList R) fun E => den Tryd.prog M6 c6_0 E w (retK Tryd.prog Tryd.f6.results.toList R)) (retK Tryd.prog Tryd.f6.results.toList R)))))))
theorem b6 : Tryd.f6.body = some c6 := by kernel_rfl
theorem n6 : Tryd.f6.ntmps = M6.N := by kernel_rfl
set_option maxRecDepth 100000 in
theorem u6 {p0_cpus : Int} {p1_active : Int} {p2_l_a : Option Addr} {p2_l_n : Nat} {p2_l_c : Nat} {w : World} {R : Ending → World → Prop} (h : den Tryd.prog M6 c6 (argE 0 [(Value.int IntKind.i64 p0_cpus), (Value.int IntKind.u64 p1_active), (Value.slice p2_l_a p2_l_n p2_l_c)]) w (retK Tryd.prog Tryd.f6.results.toList R)) : Calls Tryd.prog 6 #[(Value.int IntKind.i64 p0_cpus), (Value.int IntKind.u64 p1_active), (Value.slice p2_l_a p2_l_n p2_l_c)] w R := calls_den okProg Tryd.func6 b6 n6 (Nat.le_of_ble_eq_true rfl) h
theorem t6 (p0_cpus : Int) (p1_active : Int) (p2_l_a : Option Addr) (p2_l_n : Nat) (p2_l_c : Nat) (w : World) (R : Ending → World → Prop) : den Tryd.prog M6 c6 (argE 0 [(Value.int IntKind.i64 p0_cpus), (Value.int IntKind.u64 p1_active), (Value.slice p2_l_a p2_l_n p2_l_c)]) w (retK Tryd.prog Tryd.f6.results.toList R) =
((decide ((↑p2_l_n : Int) > (64 : Int)) = true →
    Call Tryd.prog 7 [] w fun e w' =>
      ∃ b, e = Ending.returned (Value.bool b) ∧ R (Ending.returned (Value.bool b)) w') ∧
  (decide ((↑p2_l_n : Int) > (64 : Int)) = false →
    Call Tryd.prog 10 [Value.slice p2_l_a p2_l_n p2_l_c] w fun e w' =>
      ∃ p n c,
        e = Ending.returned (Value.slice p n c) ∧
          Call Tryd.prog 16
            [Value.int IntKind.i64 p0_cpus, Value.int IntKind.u64 p1_active, Value.slice p n c] w' fun e w' =>
            ∃ p_1 n_1 c_1 n_2,
              e = Ending.returned (Value.tuple #[Value.slice p_1 n_1 c_1, Value.int IntKind.i64 n_2]) ∧
                ((n_2 != (0 : Int)) = true →
                    Call Tryd.prog 7 [] w' fun e w' =>
                      ∃ b, e = Ending.returned (Value.bool b) ∧ R (Ending.returned (Value.bool b)) w') ∧
                  ((n_2 != (0 : Int)) = false →
                    Cut
                      (WP Tryd.prog 94 (Code.loop c6_1) (e6_1 p0_cpus p n c p_1 n_1 c_1 (0 : Int)) w'
                        (k6_1 R))))) := by kernel_rfl
theorem t6_0  (w : World) (R : Ending → World → Prop) : den Tryd.prog M6 c6_0 (e6_0 ) w (k6_0 R) =
(Call Tryd.prog 7 [] w fun e w' =>
  ∃ b, e = Ending.returned (Value.bool b) ∧ R (Ending.returned (Value.bool b)) w') := by kernel_rfl
theorem t6_1 (p0_cpus : Int) (p7_x_a : Option Addr) (p7_x_n : Nat) (p7_x_c : Nat) (p8_m_a : Option Addr) (p8_m_n : Nat) (p8_m_c : Nat) (p10_i : Int) (w : World) (B6_1 : Env → World → Prop) (R : Ending → World → Prop) : den Tryd.prog M6 c6_1 (e6_1 p0_cpus p7_x_a p7_x_n p7_x_c p8_m_a p8_m_n p8_m_c p10_i) w (loopK B6_1 (k6_1 R)) =
((decide (p10_i < (↑p8_m_n : Int)) = true →
    Call Tryd.prog 9 [Value.int IntKind.i64 p0_cpus, Value.slice p7_x_a p7_x_n p7_x_c] w fun e w' =>
      ∃ p n c,
        e = Ending.returned (Value.slice p n c) ∧
          Call Tryd.prog 14 [Value.slice p n c] w' fun e w' =>
            ∃ n,
              e = Ending.returned (Value.int IntKind.i64 n) ∧
                ((0 : Int) ≤ p10_i ∧ p10_i < (↑p8_m_n : Int)) ∧
                  ∃ a,
                    p8_m_a = some a ∧
                      ∃ n_1,
                        World.cell? w' (Addr.add (Addr.add a (Int.toNat p10_i * 3)) 0) =
                            some (Value.int IntKind.i64 n_1) ∧
                          ∃ n_2,
                            World.cell? w' (Addr.add (Addr.add a (Int.toNat p10_i * 3)) 1) =
                                some (Value.int IntKind.i64 n_2) ∧
                              ∃ n_3,
                                World.cell? w' (Addr.add (Addr.add a (Int.toNat p10_i * 3)) 2) =
                                    some (Value.int IntKind.i64 n_3) ∧
                                  New w'
                                    [Value.int IntKind.i64 n_1, Value.int IntKind.i64 n_2, Value.int IntKind.i64 n_3]
                                    57 fun p w' =>
                                    Call Tryd.prog 18
                                      [Value.slice p7_x_a p7_x_n p7_x_c, Value.slice (some p) 1 1] w'
                                      fun e w' =>
                                      ∃ p n_4 c n_5,
                                        e =
                                            Ending.returned
                                              (Value.tuple #[Value.slice p n_4 c, Value.int IntKind.i64 n_5]) ∧
                                          ((n_5 != (0 : Int)) = false →
                                              Call Tryd.prog 9
                                                [Value.int IntKind.i64 p0_cpus, Value.slice p n_4 c] w' fun e w' =>
                                                ∃ p_1 n_6 c_1,
                                                  e = Ending.returned (Value.slice p_1 n_6 c_1) ∧
                                                    Call Tryd.prog 14 [Value.slice p_1 n_6 c_1] w' fun e w' =>
                                                      ∃ n_7,
                                                        e = Ending.returned (Value.int IntKind.i64 n_7) ∧
                                                          (decide (n_7 ≥ n) = true →
                                                              R (Ending.returned (Value.bool false)) w') ∧
                                                            (decide (n_7 ≥ n) = false →
                                                              Cut
                                                                (WP Tryd.prog 94 (Code.loop c6_4)
                                                                  (e6_4 p0_cpus p8_m_a p8_m_n p8_m_c p10_i p n_4 c
                                                                    (0 : Int))
                                                                  w' (k6_4 B6_1 R)))) ∧
                                            ((n_5 != (0 : Int)) = true → R (Ending.returned (Value.bool false)) w')) ∧
  (decide (p10_i < (↑p8_m_n : Int)) = false → CutD Tryd.prog M6 c6_0 e6_0 w (k6_0 R))) := by kernel_rfl
theorem t6_4 (p0_cpus : Int) (p8_m_a : Option Addr) (p8_m_n : Nat) (p8_m_c : Nat) (p10_i : Int) (p12_y_a : Option Addr) (p12_y_n : Nat) (p12_y_c : Nat) (p14_k : Int) (w : World) (B6_1 : Env → World → Prop) (B6_4 : Env → World → Prop) (R : Ending → World → Prop) : den Tryd.prog M6 c6_4 (e6_4 p0_cpus p8_m_a p8_m_n p8_m_c p10_i p12_y_a p12_y_n p12_y_c p14_k) w (loopK B6_4 (k6_4 B6_1 R)) =
((decide (p14_k < (↑p12_y_n : Int)) = true →
    ∀ (w' : World),
      World.heap w' = World.heap w →
        World.os w' = World.os w →
          World.tape w' = World.tape w →
            World.output w' = World.output w →
              ((0 : Int) ≤ p14_k ∧ p14_k < (↑p12_y_n : Int)) ∧
                ∃ a,
                  p12_y_a = some a ∧
                    ∃ n,
                      World.cell? w' (Addr.add (Addr.add a (Int.toNat p14_k * 3)) 0) =
                          some (Value.int IntKind.i64 n) ∧
                        ((0 : Int) ≤ p10_i ∧ p10_i < (↑p8_m_n : Int)) ∧
                          ∃ a,
                            p8_m_a = some a ∧
                              ∃ n_1,
                                World.cell? w' (Addr.add (Addr.add a (Int.toNat p10_i * 3)) 0) =
                                    some (Value.int IntKind.i64 n_1) ∧
                                  ((n == n_1) = true →
                                      ((0 : Int) ≤ p14_k ∧ p14_k < (↑p12_y_n : Int)) ∧
                                        ∃ a,
                                          p12_y_a = some a ∧
                                            ∃ n,
                                              World.cell? w'
                                                    (Addr.add (Addr.add a (Int.toNat p14_k * 3)) 2) =
                                                  some (Value.int IntKind.u64 n) ∧
                                                ((0 : Int) ≤ p10_i ∧ p10_i < (↑p8_m_n : Int)) ∧
                                                  ∃ a,
                                                    p8_m_a = some a ∧
                                                      ∃ n_2,
                                                        World.cell? w'
                                                              (Addr.add (Addr.add a (Int.toNat p10_i * 3))
                                                                2) =
                                                            some (Value.int IntKind.i64 n_2) ∧
                                                          Call Tryd.prog 25
                                                            [Value.int IntKind.u64 n, Value.int IntKind.i64 n_2] w'
                                                            fun e w' =>
                                                            ∃ b,
                                                              e = Ending.returned (Value.bool b) ∧
                                                                ((!b) = true →
                                                                    R (Ending.returned (Value.bool false)) w') ∧
                                                                  ((!b) = false →
                                                                    B6_4
                                                                      [(0,
                                                                          SV.v (Value.int IntKind.i64 p0_cpus)),
                                                                        (8,
                                                                          SV.v (Value.slice p8_m_a p8_m_n p8_m_c)),
                                                                        (10,
                                                                          SV.v (Value.int IntKind.i64 p10_i)),
                                                                        (12,
                                                                          SV.v
                                                                            (Value.slice p12_y_a p12_y_n p12_y_c)),
                                                                        (14,
                                                                          SV.v
                                                                            (Value.int IntKind.i64
                                                                              (IntKind.wrap IntKind.i64
                                                                                (p14_k + (1 : Int)))))]
                                                                      w')) ∧
                                    ((n == n_1) = false →
                                      B6_4
                                        [(0, SV.v (Value.int IntKind.i64 p0_cpus)),
                                          (8, SV.v (Value.slice p8_m_a p8_m_n p8_m_c)),
                                          (10, SV.v (Value.int IntKind.i64 p10_i)),
                                          (12, SV.v (Value.slice p12_y_a p12_y_n p12_y_c)),
                                          (14,
                                            SV.v
                                              (Value.int IntKind.i64 (IntKind.wrap IntKind.i64 (p14_k + (1 : Int)))))]
                                        w')) ∧
  (decide (p14_k < (↑p12_y_n : Int)) = false →
    B6_1
      [(0, SV.v (Value.int IntKind.i64 p0_cpus)), (7, SV.v (Value.slice p12_y_a p12_y_n p12_y_c)),
        (8, SV.v (Value.slice p8_m_a p8_m_n p8_m_c)),
        (10, SV.v (Value.int IntKind.i64 (IntKind.wrap IntKind.i64 (p10_i + (1 : Int)))))]
      w)) := by kernel_rfl
/-! davit/davitlaw39.known -/
def M7 : Mt := { N := 57, keep := [(0, []), (1, [1]), (2, [1, 2, 3]), (3, [2, 3, 4, 5]), (4, [2, 3, 5, 6]), (5, [0])], ords := [], bk := [], cuts := [], lk := [] }
noncomputable def c7 : Code := bodyOf Tryd.f7
theorem b7 : Tryd.f7.body = some c7 := by kernel_rfl
theorem n7 : Tryd.f7.ntmps = M7.N := by kernel_rfl
set_option maxRecDepth 100000 in
theorem u7  {w : World} {R : Ending → World → Prop} (h : den Tryd.prog M7 c7 (argE 0 []) w (retK Tryd.prog Tryd.f7.results.toList R)) : Calls Tryd.prog 7 #[] w R := calls_den okProg Tryd.func7 b7 n7 (Nat.le_of_ble_eq_true rfl) h
theorem t7  (w : World) (R : Ending → World → Prop) : den Tryd.prog M7 c7 (argE 0 []) w (retK Tryd.prog Tryd.f7.results.toList R) =
(New w
  [Value.int IntKind.i64 1, Value.int IntKind.i64 0, Value.int IntKind.u64 3,
    Value.int IntKind.i64 2, Value.int IntKind.i64 0, Value.int IntKind.u64 3,
    Value.int IntKind.i64 3, Value.int IntKind.i64 0, Value.int IntKind.u64 1]
  59 fun p w' =>
  Call Tryd.prog 16
    [Value.int IntKind.i64 2, Value.int IntKind.u64 3, Value.slice (some p) 3 3] w'
    fun e w' =>
    ∃ p_1 n c n_1,
      e = Ending.returned (Value.tuple #[Value.slice p_1 n c, Value.int IntKind.i64 n_1]) ∧
        Call Tryd.prog 18 [Value.slice (some p) 3 3, Value.slice p_1 n c] w' fun e w' =>
          ∃ p n_2 c n_3,
            e = Ending.returned (Value.tuple #[Value.slice p n_2 c, Value.int IntKind.i64 n_3]) ∧
              Call Tryd.prog 9 [Value.int IntKind.i64 2, Value.slice p n_2 c] w' fun e w' =>
                ∃ p n_4 c,
                  e = Ending.returned (Value.slice p n_4 c) ∧
                    ((n_1 == (0 : Int)) = true →
                        (((↑n : Int) == (1 : Int)) = true →
                            ((0 : Int) ≤ (0 : Int) ∧ (0 : Int) < (↑n : Int)) ∧
                              ∃ a,
                                p_1 = some a ∧
                                  ∃ n,
                                    World.cell? w' (Addr.add (Addr.add a 0) 0) =
                                        some (Value.int IntKind.i64 n) ∧
                                      ∃ n_5,
                                        World.cell? w' (Addr.add (Addr.add a 0) 1) =
                                            some (Value.int IntKind.i64 n_5) ∧
                                          ∃ n_6,
                                            World.cell? w' (Addr.add (Addr.add a 0) 2) =
                                                some (Value.int IntKind.i64 n_6) ∧
                                              ∃ b,
                                                Sem.run Tryd.prog
                                                      (Op.equal 57
                                                        (Value.agg
                                                          #[Value.int IntKind.i64 n, Value.int IntKind.i64 n_5,
                                                            Value.int IntKind.i64 n_6])
                                                        (Value.agg
                                                          #[Value.int IntKind.i64 2,
                                                            Value.int IntKind.i64 0,
                                                            Value.int IntKind.i64 1]))
                                                      w' =
                                                    Result.ok b w' ∧
                                                  false = false ∧
                                                    (b = true →
                                                        ((n_3 == (0 : Int)) = true →
                                                            New w'
                                                              [Value.int IntKind.i64 2,
                                                                Value.int IntKind.i64 1]
                                                              3 fun p_2 w' =>
                                                              Call Tryd.prog 8
                                                                [Value.slice p n_4 c,
                                                                  Value.slice (some p_2) 2 2]
                                                                w' fun e w' =>
                                                                ∃ b,
                                                                  e = Ending.returned (Value.bool b) ∧
                                                                    (b = true →
                                                                        Call Tryd.prog 12
                                                                          [Value.slice p n_4 c,
                                                                            Value.int IntKind.u64 3]
                                                                          w' fun e w' =>
                                                                          ∃ n,
                                                                            e =
                                                                                Ending.returned
                                                                                  (Value.int IntKind.i64 n) ∧
                                                                              ((n == (1 : Int)) = true →
                                                                                  Call Tryd.prog 14
                                                                                    [Value.slice p n_4 c] w' fun e w' =>
                                                                                    ∃ n,
                                                                                      e =
                                                                                          Ending.returned
                                                                                            (Value.int IntKind.i64 n) ∧
                                                                                        R
                                                                                          (Ending.returned
                                                                                            (Value.bool
                                                                                              (n == (5 : Int))))
                                                                                          w') ∧
                                                                                ((n == (1 : Int)) = false →
                                                                                  R
                                                                                    (Ending.returned (Value.bool false))
                                                                                    w')) ∧
                                                                      (b = false →
                                                                        R (Ending.returned (Value.bool false)) w')) ∧
                                                          ((n_3 == (0 : Int)) = false →
                                                            R (Ending.returned (Value.bool false)) w')) ∧
                                                      (b = false → R (Ending.returned (Value.bool false)) w')) ∧
                          (((↑n : Int) == (1 : Int)) = false → R (Ending.returned (Value.bool false)) w')) ∧
                      ((n_1 == (0 : Int)) = false → R (Ending.returned (Value.bool false)) w')) := by kernel_rfl
/-! davit/davitref01.Ints -/
def M8 : Mt := { N := 26, keep := [(0, [0, 1]), (1, [0, 1, 10]), (2, [4]), (3, [0, 1, 5]), (4, [0, 1, 5, 14]), (5, [0, 1, 5]), (6, [0, 1, 5, 25]), (7, [4]), (8, [4])], ords := [(6, [0, 1, 2, 3, 4, 5, 6, 7, 8])], bk := [(0, []), (1, [0, 1, 5])], cuts := [], lk := [(4, [0, 1, 5])] }
noncomputable def c8 : Code := bodyOf Tryd.f8
noncomputable def c8_0 : Code := c8.sr.sr.sr
noncomputable def c8_1 : Code := c8.sr.sr.sl.sr.sl.sl
def e8_1 (p0_a_a : Option Addr) (p0_a_n : Nat) (p0_a_c : Nat) (p1_b_a : Option Addr) (p1_b_n : Nat) (p1_b_c : Nat) (p5_i : Int) : Env := [(0, SV.v (Value.slice p0_a_a p0_a_n p0_a_c)), (1, SV.v (Value.slice p1_b_a p1_b_n p1_b_c)), (5, SV.v (Value.int IntKind.i64 p5_i))]
def k8_1 (R : Ending → World → Prop) : Cont := blockK 0 [] (seqK (fun E w => cutB (findL M8.cuts (headReg c8_0)) Tryd.prog M8 c8_0 E w (retK Tryd.prog Tryd.f8.results.toList R) fun E => den Tryd.prog M8 c8_0 E w (retK Tryd.prog Tryd.f8.results.toList R)) (retK Tryd.prog Tryd.f8.results.toList R))
theorem b8 : Tryd.f8.body = some c8 := by kernel_rfl
theorem n8 : Tryd.f8.ntmps = M8.N := by kernel_rfl
set_option maxRecDepth 100000 in
theorem u8 {p0_a_a : Option Addr} {p0_a_n : Nat} {p0_a_c : Nat} {p1_b_a : Option Addr} {p1_b_n : Nat} {p1_b_c : Nat} {w : World} {R : Ending → World → Prop} (h : den Tryd.prog M8 c8 (argE 0 [(Value.slice p0_a_a p0_a_n p0_a_c), (Value.slice p1_b_a p1_b_n p1_b_c)]) w (retK Tryd.prog Tryd.f8.results.toList R)) : Calls Tryd.prog 8 #[(Value.slice p0_a_a p0_a_n p0_a_c), (Value.slice p1_b_a p1_b_n p1_b_c)] w R := calls_den okProg Tryd.func8 b8 n8 (Nat.le_of_ble_eq_true rfl) h
theorem t8 (p0_a_a : Option Addr) (p0_a_n : Nat) (p0_a_c : Nat) (p1_b_a : Option Addr) (p1_b_n : Nat) (p1_b_c : Nat) (w : World) (R : Ending → World → Prop) : den Tryd.prog M8 c8 (argE 0 [(Value.slice p0_a_a p0_a_n p0_a_c), (Value.slice p1_b_a p1_b_n p1_b_c)]) w (retK Tryd.prog Tryd.f8.results.toList R) =
((((↑p0_a_n : Int) != (↑p1_b_n : Int)) = true → R (Ending.returned (Value.bool false)) w) ∧
  (((↑p0_a_n : Int) != (↑p1_b_n : Int)) = false →
    Cut
      (WP Tryd.prog 26 (Code.loop c8_1) (e8_1 p0_a_a p0_a_n p0_a_c p1_b_a p1_b_n p1_b_c (0 : Int)) w
        (k8_1 R)))) := by kernel_rfl
theorem t8_1 (p0_a_a : Option Addr) (p0_a_n : Nat) (p0_a_c : Nat) (p1_b_a : Option Addr) (p1_b_n : Nat) (p1_b_c : Nat) (p5_i : Int) (w : World) (B8_1 : Env → World → Prop) (R : Ending → World → Prop) : den Tryd.prog M8 c8_1 (e8_1 p0_a_a p0_a_n p0_a_c p1_b_a p1_b_n p1_b_c p5_i) w (loopK B8_1 (k8_1 R)) =
((decide (p5_i < (↑p0_a_n : Int)) = true →
    ∀ (w' : World),
      World.heap w' = World.heap w →
        World.os w' = World.os w →
          World.tape w' = World.tape w →
            World.output w' = World.output w →
              ((0 : Int) ≤ p5_i ∧ p5_i < (↑p0_a_n : Int)) ∧
                ∃ a,
                  p0_a_a = some a ∧
                    ∃ n,
                      World.cell? w' (Addr.add a (Int.toNat p5_i * 1)) = some (Value.int IntKind.i64 n) ∧
                        ((0 : Int) ≤ p5_i ∧ p5_i < (↑p1_b_n : Int)) ∧
                          ∃ a,
                            p1_b_a = some a ∧
                              ∃ n_1,
                                World.cell? w' (Addr.add a (Int.toNat p5_i * 1)) =
                                    some (Value.int IntKind.i64 n_1) ∧
                                  ((n != n_1) = true → R (Ending.returned (Value.bool false)) w') ∧
                                    ((n != n_1) = false →
                                      B8_1
                                        [(0, SV.v (Value.slice p0_a_a p0_a_n p0_a_c)),
                                          (1, SV.v (Value.slice p1_b_a p1_b_n p1_b_c)),
                                          (5,
                                            SV.v
                                              (Value.int IntKind.i64 (IntKind.wrap IntKind.i64 (p5_i + (1 : Int)))))]
                                        w')) ∧
  (decide (p5_i < (↑p0_a_n : Int)) = false → R (Ending.returned (Value.bool true)) w)) := by kernel_rfl
/-! davit/spread.Loads -/
def M9 : Mt := { N := 37, keep := [(0, [0, 1]), (1, [0, 1, 10]), (2, [4]), (3, [0, 1, 5]), (4, [0, 5, 13, 14, 15]), (5, [0, 5, 13, 14, 15, 16]), (6, [0, 5, 7, 13, 14, 15]), (7, [0, 5, 7, 13, 14, 15, 27]), (8, [0, 5, 13, 14, 15]), (9, [0, 5, 13, 14, 15]), (10, [4])], ords := [], bk := [(0, [5]), (1, [0, 5, 13, 14, 15])], cuts := [], lk := [(5, [0, 5, 13, 14, 15])] }
noncomputable def c9 : Code := bodyOf Tryd.f9
noncomputable def c9_0 : Code := c9.sr.sr.sr.sr
noncomputable def c9_1 : Code := c9.sr.sr.sr.sl.sr.sl.sl
def e9_1 (p0_cpus : Int) (p5_loads_a : Option Addr) (p5_loads_n : Nat) (p5_loads_c : Nat) (p13_t_a : Option Addr) (p13_t_n : Nat) (p13_t_c : Nat) (p14_t : Int) (p15_t : Int) : Env := [(0, SV.v (Value.int IntKind.i64 p0_cpus)), (5, SV.v (Value.slice p5_loads_a p5_loads_n p5_loads_c)), (13, SV.v (Value.slice p13_t_a p13_t_n p13_t_c)), (14, SV.v (Value.int IntKind.i64 p14_t)), (15, SV.v (Value.int IntKind.i64 p15_t))]
def k9_1 (R : Ending → World → Prop) : Cont := blockK 0 [5] (seqK (fun E w => cutB (findL M9.cuts (headReg c9_0)) Tryd.prog M9 c9_0 E w (retK Tryd.prog Tryd.f9.results.toList R) fun E => den Tryd.prog M9 c9_0 E w (retK Tryd.prog Tryd.f9.results.toList R)) (retK Tryd.prog Tryd.f9.results.toList R))
theorem b9 : Tryd.f9.body = some c9 := by kernel_rfl
theorem n9 : Tryd.f9.ntmps = M9.N := by kernel_rfl
set_option maxRecDepth 100000 in
theorem u9 {p0_cpus : Int} {p1_l_a : Option Addr} {p1_l_n : Nat} {p1_l_c : Nat} {w : World} {R : Ending → World → Prop} (h : den Tryd.prog M9 c9 (argE 0 [(Value.int IntKind.i64 p0_cpus), (Value.slice p1_l_a p1_l_n p1_l_c)]) w (retK Tryd.prog Tryd.f9.results.toList R)) : Calls Tryd.prog 9 #[(Value.int IntKind.i64 p0_cpus), (Value.slice p1_l_a p1_l_n p1_l_c)] w R := calls_den okProg Tryd.func9 b9 n9 (Nat.le_of_ble_eq_true rfl) h
theorem t9 (p0_cpus : Int) (p1_l_a : Option Addr) (p1_l_n : Nat) (p1_l_c : Nat) (w : World) (R : Ending → World → Prop) : den Tryd.prog M9 c9 (argE 0 [(Value.int IntKind.i64 p0_cpus), (Value.slice p1_l_a p1_l_n p1_l_c)]) w (retK Tryd.prog Tryd.f9.results.toList R) =
(Call Tryd.prog 26 [Value.int IntKind.i64 p0_cpus] w fun e w' =>
  ∃ b,
    e = Ending.returned (Value.bool b) ∧
      ((!b) = true → R (Ending.returned (Value.slice none 0 0)) w') ∧
        ((!b) = false →
          ∃ p n c w'_1,
            Sem.run Tryd.prog
                  (Instr.makeSlice 23 (Value.int IntKind.i64 p0_cpus) (Value.int IntKind.i64 p0_cpus)) w' =
                Result.ok (Value.slice p n c) w'_1 ∧
              Cut
                (WP Tryd.prog 37 (Code.loop c9_1)
                  (e9_1 p0_cpus p n c p1_l_a p1_l_n p1_l_c (↑p1_l_n : Int) (0 : Int)) w'_1 (k9_1 R)))) := by kernel_rfl
theorem t9_1 (p0_cpus : Int) (p5_loads_a : Option Addr) (p5_loads_n : Nat) (p5_loads_c : Nat) (p13_t_a : Option Addr) (p13_t_n : Nat) (p13_t_c : Nat) (p14_t : Int) (p15_t : Int) (w : World) (B9_1 : Env → World → Prop) (R : Ending → World → Prop) : den Tryd.prog M9 c9_1 (e9_1 p0_cpus p5_loads_a p5_loads_n p5_loads_c p13_t_a p13_t_n p13_t_c p14_t p15_t) w (loopK B9_1 (k9_1 R)) =
((decide (p15_t < p14_t) = true →
    ((0 : Int) ≤ p15_t ∧ p15_t < (↑p13_t_n : Int)) ∧
      ∃ a,
        p13_t_a = some a ∧
          ∃ n,
            World.cell? w (Addr.add (Addr.add a (Int.toNat p15_t * 3)) 0) =
                some (Value.int IntKind.i64 n) ∧
              ∃ n_1,
                World.cell? w (Addr.add (Addr.add a (Int.toNat p15_t * 3)) 1) =
                    some (Value.int IntKind.i64 n_1) ∧
                  ∃ n_2,
                    World.cell? w (Addr.add (Addr.add a (Int.toNat p15_t * 3)) 2) =
                        some (Value.int IntKind.u64 n_2) ∧
                      New w
                        [Value.int IntKind.i64 0, Value.int IntKind.i64 0,
                          Value.int IntKind.u64 0]
                        59 fun p w' =>
                        Wr w' p [Value.int IntKind.i64 n, Value.int IntKind.i64 n_1, Value.int IntKind.u64 n_2]
                          fun w' =>
                          ∃ n,
                            World.cell? w' (Addr.add p 1) = some (Value.int IntKind.i64 n) ∧
                              (decide (n ≥ (0 : Int)) = true →
                                  ∃ n,
                                    World.cell? w' (Addr.add p 1) = some (Value.int IntKind.i64 n) ∧
                                      (decide (n < p0_cpus) = true →
                                          ∃ n,
                                            World.cell? w' (Addr.add p 1) = some (Value.int IntKind.i64 n) ∧
                                              ((0 : Int) ≤ n ∧ n < (↑p5_loads_n : Int)) ∧
                                                ∃ a,
                                                  p5_loads_a = some a ∧
                                                    ∃ n_3,
                                                      World.cell? w' (Addr.add a (Int.toNat n * 1)) =
                                                          some (Value.int IntKind.i64 n_3) ∧
                                                        ((0 : Int) ≤ n ∧ n < (↑p5_loads_n : Int)) ∧
                                                          ∃ a,
                                                            p5_loads_a = some a ∧
                                                              Wr w' (Addr.add a (Int.toNat n * 1))
                                                                [Value.int IntKind.i64
                                                                    (IntKind.wrap IntKind.i64 (n_3 + (1 : Int)))]
                                                                fun w' =>
                                                                B9_1
                                                                  [(0, SV.v (Value.int IntKind.i64 p0_cpus)),
                                                                    (5,
                                                                      SV.v
                                                                        (Value.slice p5_loads_a p5_loads_n
                                                                          p5_loads_c)),
                                                                    (13,
                                                                      SV.v (Value.slice p13_t_a p13_t_n p13_t_c)),
                                                                    (14, SV.v (Value.int IntKind.i64 p14_t)),
                                                                    (15,
                                                                      SV.v
                                                                        (Value.int IntKind.i64
                                                                          (IntKind.wrap IntKind.i64
                                                                            (p15_t + (1 : Int)))))]
                                                                  w') ∧
                                        (decide (n < p0_cpus) = false →
                                          B9_1
                                            [(0, SV.v (Value.int IntKind.i64 p0_cpus)),
                                              (5, SV.v (Value.slice p5_loads_a p5_loads_n p5_loads_c)),
                                              (13, SV.v (Value.slice p13_t_a p13_t_n p13_t_c)),
                                              (14, SV.v (Value.int IntKind.i64 p14_t)),
                                              (15,
                                                SV.v
                                                  (Value.int IntKind.i64
                                                    (IntKind.wrap IntKind.i64 (p15_t + (1 : Int)))))]
                                            w')) ∧
                                (decide (n ≥ (0 : Int)) = false →
                                  B9_1
                                    [(0, SV.v (Value.int IntKind.i64 p0_cpus)),
                                      (5, SV.v (Value.slice p5_loads_a p5_loads_n p5_loads_c)),
                                      (13, SV.v (Value.slice p13_t_a p13_t_n p13_t_c)),
                                      (14, SV.v (Value.int IntKind.i64 p14_t)),
                                      (15,
                                        SV.v (Value.int IntKind.i64 (IntKind.wrap IntKind.i64 (p15_t + (1 : Int)))))]
                                    w')) ∧
  (decide (p15_t < p14_t) = false → R (Ending.returned (Value.slice p5_loads_a p5_loads_n p5_loads_c)) w)) := by kernel_rfl
/-! davit/davitlaw39.given -/
def M10 : Mt := { N := 31, keep := [(0, [0]), (1, [0, 3]), (2, [0, 3, 4]), (3, [0, 3, 4, 8]), (4, [0, 3, 4]), (5, [0, 3, 4]), (6, [2])], ords := [(5, [0, 1, 2, 3, 4, 5, 6, 7, 8, 9, 10, 11, 12, 13, 14, 15, 16, 17, 18, 19])], bk := [(0, [3]), (1, [0, 3, 4])], cuts := [], lk := [(3, [0, 3, 4])] }
noncomputable def c10 : Code := bodyOf Tryd.f10
noncomputable def c10_0 : Code := c10.sr.sr.sr
noncomputable def c10_1 : Code := c10.sr.sr.sl.sr.sl.sl
def e10_1 (p0_l_a : Option Addr) (p0_l_n : Nat) (p0_l_c : Nat) (p3_out_a : Option Addr) (p3_out_n : Nat) (p3_out_c : Nat) (p4_i : Int) : Env := [(0, SV.v (Value.slice p0_l_a p0_l_n p0_l_c)), (3, SV.v (Value.slice p3_out_a p3_out_n p3_out_c)), (4, SV.v (Value.int IntKind.i64 p4_i))]
def k10_1 (R : Ending → World → Prop) : Cont := blockK 0 [3] (seqK (fun E w => cutB (findL M10.cuts (headReg c10_0)) Tryd.prog M10 c10_0 E w (retK Tryd.prog Tryd.f10.results.toList R) fun E => den Tryd.prog M10 c10_0 E w (retK Tryd.prog Tryd.f10.results.toList R)) (retK Tryd.prog Tryd.f10.results.toList R))
theorem b10 : Tryd.f10.body = some c10 := by kernel_rfl
theorem n10 : Tryd.f10.ntmps = M10.N := by kernel_rfl
set_option maxRecDepth 100000 in
theorem u10 {p0_l_a : Option Addr} {p0_l_n : Nat} {p0_l_c : Nat} {w : World} {R : Ending → World → Prop} (h : den Tryd.prog M10 c10 (argE 0 [(Value.slice p0_l_a p0_l_n p0_l_c)]) w (retK Tryd.prog Tryd.f10.results.toList R)) : Calls Tryd.prog 10 #[(Value.slice p0_l_a p0_l_n p0_l_c)] w R := calls_den okProg Tryd.func10 b10 n10 (Nat.le_of_ble_eq_true rfl) h
theorem t10 (p0_l_a : Option Addr) (p0_l_n : Nat) (p0_l_c : Nat) (w : World) (R : Ending → World → Prop) : den Tryd.prog M10 c10 (argE 0 [(Value.slice p0_l_a p0_l_n p0_l_c)]) w (retK Tryd.prog Tryd.f10.results.toList R) =
(Cut
  (WP Tryd.prog 31 (Code.loop c10_1) (e10_1 p0_l_a p0_l_n p0_l_c none 0 0 (0 : Int)) w
    (k10_1 R))) := by kernel_rfl
theorem t10_1 (p0_l_a : Option Addr) (p0_l_n : Nat) (p0_l_c : Nat) (p3_out_a : Option Addr) (p3_out_n : Nat) (p3_out_c : Nat) (p4_i : Int) (w : World) (B10_1 : Env → World → Prop) (R : Ending → World → Prop) : den Tryd.prog M10 c10_1 (e10_1 p0_l_a p0_l_n p0_l_c p3_out_a p3_out_n p3_out_c p4_i) w (loopK B10_1 (k10_1 R)) =
((decide (p4_i < (↑p0_l_n : Int)) = true →
    ∀ (w' : World),
      World.heap w' = World.heap w →
        World.os w' = World.os w →
          World.tape w' = World.tape w →
            World.output w' = World.output w →
              ((0 : Int) ≤ p4_i ∧ p4_i < (↑p0_l_n : Int)) ∧
                ∃ a,
                  p0_l_a = some a ∧
                    ∃ n,
                      World.cell? w' (Addr.add (Addr.add a (Int.toNat p4_i * 3)) 0) =
                          some (Value.int IntKind.i64 n) ∧
                        ((0 : Int) ≤ p4_i ∧ p4_i < (↑p0_l_n : Int)) ∧
                          ∃ a,
                            p0_l_a = some a ∧
                              ∃ n_1,
                                World.cell? w' (Addr.add (Addr.add a (Int.toNat p4_i * 3)) 1) =
                                    some (Value.int IntKind.i64 n_1) ∧
                                  ((0 : Int) ≤ p4_i ∧ p4_i < (↑p0_l_n : Int)) ∧
                                    ∃ a,
                                      p0_l_a = some a ∧
                                        ∃ n_2,
                                          World.cell? w'
                                                (Addr.add (Addr.add a (Int.toNat p4_i * 3)) 2) =
                                              some (Value.int IntKind.u64 n_2) ∧
                                            New w'
                                              [Value.int IntKind.i64 n, Value.int IntKind.i64 n_1,
                                                Value.int IntKind.u64 n_2]
                                              59 fun p w' =>
                                              ∃ p_1 n c w'_1,
                                                Sem.run Tryd.prog
                                                      (Builtin.append_ #[28, 28] 28
                                                        #[Value.slice p3_out_a p3_out_n p3_out_c,
                                                          Value.slice (some p) 1 1])
                                                      w' =
                                                    Result.ok (Value.slice p_1 n c) w'_1 ∧
                                                  B10_1
                                                    [(0, SV.v (Value.slice p0_l_a p0_l_n p0_l_c)),
                                                      (3, SV.v (Value.slice p_1 n c)),
                                                      (4,
                                                        SV.v
                                                          (Value.int IntKind.i64
                                                            (IntKind.wrap IntKind.i64 (p4_i + (1 : Int)))))]
                                                    w'_1) ∧
  (decide (p4_i < (↑p0_l_n : Int)) = false → R (Ending.returned (Value.slice p3_out_a p3_out_n p3_out_c)) w)) := by kernel_rfl
/-! davit/davitref39.Loads -/
def M11 : Mt := { N := 25, keep := [(0, [0, 1]), (1, [0, 1, 12]), (2, [4]), (3, [0, 1, 5]), (4, [0, 1, 5, 6]), (5, [0, 1, 5, 6, 15]), (6, [0, 1, 5, 6]), (7, [0, 1, 5, 6]), (8, [4])], ords := [], bk := [(0, [5]), (1, [0, 1, 5, 6])], cuts := [], lk := [(5, [0, 1, 5, 6])] }
noncomputable def c11 : Code := bodyOf Tryd.f11
noncomputable def c11_0 : Code := c11.sr.sr.sr.sr
noncomputable def c11_1 : Code := c11.sr.sr.sr.sl.sr.sl.sl
def e11_1 (p0_cpus : Int) (p1_l_a : Option Addr) (p1_l_n : Nat) (p1_l_c : Nat) (p5_out_a : Option Addr) (p5_out_n : Nat) (p5_out_c : Nat) (p6_c : Int) : Env := [(0, SV.v (Value.int IntKind.i64 p0_cpus)), (1, SV.v (Value.slice p1_l_a p1_l_n p1_l_c)), (5, SV.v (Value.slice p5_out_a p5_out_n p5_out_c)), (6, SV.v (Value.int IntKind.i64 p6_c))]
def k11_1 (R : Ending → World → Prop) : Cont := blockK 0 [5] (seqK (fun E w => cutB (findL M11.cuts (headReg c11_0)) Tryd.prog M11 c11_0 E w (retK Tryd.prog Tryd.f11.results.toList R) fun E => den Tryd.prog M11 c11_0 E w (retK Tryd.prog Tryd.f11.results.toList R)) (retK Tryd.prog Tryd.f11.results.toList R))
theorem b11 : Tryd.f11.body = some c11 := by kernel_rfl
theorem n11 : Tryd.f11.ntmps = M11.N := by kernel_rfl
set_option maxRecDepth 100000 in
theorem u11 {p0_cpus : Int} {p1_l_a : Option Addr} {p1_l_n : Nat} {p1_l_c : Nat} {w : World} {R : Ending → World → Prop} (h : den Tryd.prog M11 c11 (argE 0 [(Value.int IntKind.i64 p0_cpus), (Value.slice p1_l_a p1_l_n p1_l_c)]) w (retK Tryd.prog Tryd.f11.results.toList R)) : Calls Tryd.prog 11 #[(Value.int IntKind.i64 p0_cpus), (Value.slice p1_l_a p1_l_n p1_l_c)] w R := calls_den okProg Tryd.func11 b11 n11 (Nat.le_of_ble_eq_true rfl) h
theorem t11 (p0_cpus : Int) (p1_l_a : Option Addr) (p1_l_n : Nat) (p1_l_c : Nat) (w : World) (R : Ending → World → Prop) : den Tryd.prog M11 c11 (argE 0 [(Value.int IntKind.i64 p0_cpus), (Value.slice p1_l_a p1_l_n p1_l_c)]) w (retK Tryd.prog Tryd.f11.results.toList R) =
((decide (p0_cpus < (1 : Int)) = false →
    (decide (p0_cpus > (64 : Int)) = true → R (Ending.returned (Value.slice none 0 0)) w) ∧
      (decide (p0_cpus > (64 : Int)) = false →
        Cut
          (WP Tryd.prog 25 (Code.loop c11_1)
            (e11_1 p0_cpus p1_l_a p1_l_n p1_l_c none 0 0 (0 : Int)) w (k11_1 R)))) ∧
  (decide (p0_cpus < (1 : Int)) = true → R (Ending.returned (Value.slice none 0 0)) w)) := by kernel_rfl
theorem t11_1 (p0_cpus : Int) (p1_l_a : Option Addr) (p1_l_n : Nat) (p1_l_c : Nat) (p5_out_a : Option Addr) (p5_out_n : Nat) (p5_out_c : Nat) (p6_c : Int) (w : World) (B11_1 : Env → World → Prop) (R : Ending → World → Prop) : den Tryd.prog M11 c11_1 (e11_1 p0_cpus p1_l_a p1_l_n p1_l_c p5_out_a p5_out_n p5_out_c p6_c) w (loopK B11_1 (k11_1 R)) =
((decide (p6_c < p0_cpus) = true →
    Call Tryd.prog 27 [Value.slice p1_l_a p1_l_n p1_l_c, Value.int IntKind.i64 p6_c] w fun e w' =>
      ∃ n,
        e = Ending.returned (Value.int IntKind.i64 n) ∧
          New w' [Value.int IntKind.i64 n] 3 fun p w' =>
            ∃ p_1 n c w'_1,
              Sem.run Tryd.prog
                    (Builtin.append_ #[23, 23] 23
                      #[Value.slice p5_out_a p5_out_n p5_out_c, Value.slice (some p) 1 1])
                    w' =
                  Result.ok (Value.slice p_1 n c) w'_1 ∧
                B11_1
                  [(0, SV.v (Value.int IntKind.i64 p0_cpus)),
                    (1, SV.v (Value.slice p1_l_a p1_l_n p1_l_c)), (5, SV.v (Value.slice p_1 n c)),
                    (6, SV.v (Value.int IntKind.i64 (IntKind.wrap IntKind.i64 (p6_c + (1 : Int)))))]
                  w'_1) ∧
  (decide (p6_c < p0_cpus) = false → R (Ending.returned (Value.slice p5_out_a p5_out_n p5_out_c)) w)) := by kernel_rfl
/-! davit/spread.Gap -/
def M12 : Mt := { N := 17, keep := [(0, [0, 1]), (1, [5]), (2, [5, 11]), (3, [4]), (4, [4])], ords := [], bk := [], cuts := [], lk := [] }
noncomputable def c12 : Code := bodyOf Tryd.f12
theorem b12 : Tryd.f12.body = some c12 := by kernel_rfl
theorem n12 : Tryd.f12.ntmps = M12.N := by kernel_rfl
set_option maxRecDepth 100000 in
theorem u12 {p0_loads_a : Option Addr} {p0_loads_n : Nat} {p0_loads_c : Nat} {p1_of : Int} {w : World} {R : Ending → World → Prop} (h : den Tryd.prog M12 c12 (argE 0 [(Value.slice p0_loads_a p0_loads_n p0_loads_c), (Value.int IntKind.u64 p1_of)]) w (retK Tryd.prog Tryd.f12.results.toList R)) : Calls Tryd.prog 12 #[(Value.slice p0_loads_a p0_loads_n p0_loads_c), (Value.int IntKind.u64 p1_of)] w R := calls_den okProg Tryd.func12 b12 n12 (Nat.le_of_ble_eq_true rfl) h
theorem t12 (p0_loads_a : Option Addr) (p0_loads_n : Nat) (p0_loads_c : Nat) (p1_of : Int) (w : World) (R : Ending → World → Prop) : den Tryd.prog M12 c12 (argE 0 [(Value.slice p0_loads_a p0_loads_n p0_loads_c), (Value.int IntKind.u64 p1_of)]) w (retK Tryd.prog Tryd.f12.results.toList R) =
(Call Tryd.prog 28 [Value.slice p0_loads_a p0_loads_n p0_loads_c, Value.int IntKind.u64 p1_of] w fun e w' =>
  ∃ p n c,
    e = Ending.returned (Value.slice p n c) ∧
      (((↑n : Int) == (0 : Int)) = true → R (Ending.returned (Value.int IntKind.i64 0)) w') ∧
        (((↑n : Int) == (0 : Int)) = false →
          Call Tryd.prog 29 [Value.slice p n c] w' fun e w' =>
            ∃ n_1,
              e = Ending.returned (Value.int IntKind.i64 n_1) ∧
                Call Tryd.prog 30 [Value.slice p n c] w' fun e w' =>
                  ∃ n,
                    e = Ending.returned (Value.int IntKind.i64 n) ∧
                      R (Ending.returned (Value.int IntKind.i64 (IntKind.wrap IntKind.i64 (n_1 - n)))) w')) := by kernel_rfl
/-! davit/davitref39.Gap -/
def M13 : Mt := { N := 54, keep := [(0, [0, 1]), (1, [0, 1, 5]), (2, [0, 1, 5, 6]), (3, [0, 1, 5, 6, 7]), (4, [0, 1, 5, 6, 7, 8]), (5, [0, 1, 5, 6, 7, 8, 16]), (6, [0, 1, 5, 6, 7, 8]), (7, [0, 1, 5, 6, 7, 8, 22]), (8, [0, 1, 5, 6, 7, 8, 32]), (9, [0, 1, 5, 6, 7, 8]), (10, [0, 1, 6, 7, 8, 46]), (11, [0, 1, 6, 7, 8]), (12, [0, 1, 5, 6, 7, 8]), (13, [4])], ords := [], bk := [(0, [6, 7]), (1, [0, 1, 5, 6, 7, 8])], cuts := [(10, [0, 1, 5, 6, 7, 8])], lk := [(5, [0, 1, 5, 6, 7, 8])] }
noncomputable def c13 : Code := bodyOf Tryd.f13
noncomputable def c13_0 : Code := c13.sr.sr.sr.sr.sr
noncomputable def c13_1 : Code := c13.sr.sr.sr.sr.sl.sr.sl.sl
noncomputable def c13_2 : Code := c13.sr.sr.sr.sr.sl.sr.sl.sl.sr.sr
noncomputable def c13_3 : Code := c13.sr.sr.sr.sr.sl.sr.sl.sl.sr.sl.sl.sr.sr
def e13_1 (p0_loads_a : Option Addr) (p0_loads_n : Nat) (p0_loads_c : Nat) (p1_of : Int) (p5_some : Bool) (p6_low : Int) (p7_high : Int) (p8_c : Int) : Env := [(0, SV.v (Value.slice p0_loads_a p0_loads_n p0_loads_c)), (1, SV.v (Value.int IntKind.u64 p1_of)), (5, SV.v (Value.bool p5_some)), (6, SV.v (Value.int IntKind.i64 p6_low)), (7, SV.v (Value.int IntKind.i64 p7_high)), (8, SV.v (Value.int IntKind.i64 p8_c))]
def e13_3 (p0_loads_a : Option Addr) (p0_loads_n : Nat) (p0_loads_c : Nat) (p1_of : Int) (p5_some : Bool) (p6_low : Int) (p7_high : Int) (p8_c : Int) : Env := [(0, SV.v (Value.slice p0_loads_a p0_loads_n p0_loads_c)), (1, SV.v (Value.int IntKind.u64 p1_of)), (5, SV.v (Value.bool p5_some)), (6, SV.v (Value.int IntKind.i64 p6_low)), (7, SV.v (Value.int IntKind.i64 p7_high)), (8, SV.v (Value.int IntKind.i64 p8_c))]
def k13_1 (R : Ending → World → Prop) : Cont := blockK 0 [6, 7] (seqK (fun E w => cutB (findL M13.cuts (headReg c13_0)) Tryd.prog M13 c13_0 E w (retK Tryd.prog Tryd.f13.results.toList R) fun E => den Tryd.prog M13 c13_0 E w (retK Tryd.prog Tryd.f13.results.toList R)) (retK Tryd.prog Tryd.f13.results.toList R))
def k13_3 (B13_1 : Env → World → Prop) (R : Ending → World → Prop) : Cont := blockK 1 [0, 1, 5, 6, 7, 8] (seqK (fun E w => cutB (findL M13.cuts (headReg c13_2)) Tryd.prog M13 c13_2 E w (loopK B13_1 (blockK 0 [6, 7] (seqK (fun E w => cutB (findL M13.cuts (headReg c13_0)) Tryd.prog M13 c13_0 E w (retK Tryd.prog Tryd.f13.results.toList R) fun E => den Tryd.prog M13 c13_0 E w (retK Tryd.prog Tryd.f13.results.toList R)) (retK Tryd.prog Tryd.f13.results.toList R)))) fun E => den Tryd.prog M13 c13_2 E w (loopK B13_1 (blockK 0 [6, 7] (seqK (fun E w => cutB (findL M13.cuts (headReg c13_0)) Tryd.prog M13 c13_0 E w (retK Tryd.prog Tryd.f13.results.toList R) fun E => den Tryd.prog M13 c13_0 E w (retK Tryd.prog Tryd.f13.results.toList R)) (retK Tryd.prog Tryd.f13.results.toList R))))) (loopK B13_1 (blockK 0 [6, 7] (seqK (fun E w => cutB (findL M13.cuts (headReg c13_0)) Tryd.prog M13 c13_0 E w (retK Tryd.prog Tryd.f13.results.toList R) fun E => den Tryd.prog M13 c13_0 E w (retK Tryd.prog Tryd.f13.results.toList R)) (retK Tryd.prog Tryd.f13.results.toList R)))))
theorem b13 : Tryd.f13.body = some c13 := by kernel_rfl
theorem n13 : Tryd.f13.ntmps = M13.N := by kernel_rfl
set_option maxRecDepth 100000 in
theorem u13 {p0_loads_a : Option Addr} {p0_loads_n : Nat} {p0_loads_c : Nat} {p1_of : Int} {w : World} {R : Ending → World → Prop} (h : den Tryd.prog M13 c13 (argE 0 [(Value.slice p0_loads_a p0_loads_n p0_loads_c), (Value.int IntKind.u64 p1_of)]) w (retK Tryd.prog Tryd.f13.results.toList R)) : Calls Tryd.prog 13 #[(Value.slice p0_loads_a p0_loads_n p0_loads_c), (Value.int IntKind.u64 p1_of)] w R := calls_den okProg Tryd.func13 b13 n13 (Nat.le_of_ble_eq_true rfl) h
theorem t13 (p0_loads_a : Option Addr) (p0_loads_n : Nat) (p0_loads_c : Nat) (p1_of : Int) (w : World) (R : Ending → World → Prop) : den Tryd.prog M13 c13 (argE 0 [(Value.slice p0_loads_a p0_loads_n p0_loads_c), (Value.int IntKind.u64 p1_of)]) w (retK Tryd.prog Tryd.f13.results.toList R) =
(Cut
  (WP Tryd.prog 54 (Code.loop c13_1)
    [(0, SV.v (Value.slice p0_loads_a p0_loads_n p0_loads_c)),
      (1, SV.v (Value.int IntKind.u64 p1_of)), (5, SV.b false),
      (6, SV.v (Value.int IntKind.i64 0)), (7, SV.v (Value.int IntKind.i64 0)),
      (8, SV.v (Value.int IntKind.i64 0))]
    w (k13_1 R))) := by kernel_rfl
theorem t13_1 (p0_loads_a : Option Addr) (p0_loads_n : Nat) (p0_loads_c : Nat) (p1_of : Int) (p5_some : Bool) (p6_low : Int) (p7_high : Int) (p8_c : Int) (w : World) (B13_1 : Env → World → Prop) (R : Ending → World → Prop) : den Tryd.prog M13 c13_1 (e13_1 p0_loads_a p0_loads_n p0_loads_c p1_of p5_some p6_low p7_high p8_c) w (loopK B13_1 (k13_1 R)) =
((decide (p8_c < (↑p0_loads_n : Int)) = true →
    (decide (p8_c < (64 : Int)) = true →
        Call Tryd.prog 31 [Value.int IntKind.u64 p1_of, Value.int IntKind.i64 p8_c] w fun e w' =>
          ∃ b,
            e = Ending.returned (Value.bool b) ∧
              ((!b) = true →
                  B13_1
                    [(0, SV.v (Value.slice p0_loads_a p0_loads_n p0_loads_c)),
                      (1, SV.v (Value.int IntKind.u64 p1_of)), (5, SV.v (Value.bool p5_some)),
                      (6, SV.v (Value.int IntKind.i64 p6_low)),
                      (7, SV.v (Value.int IntKind.i64 p7_high)),
                      (8, SV.v (Value.int IntKind.i64 (IntKind.wrap IntKind.i64 (p8_c + (1 : Int)))))]
                    w') ∧
                ((!b) = false →
                  ((!p5_some) = false →
                      ((0 : Int) ≤ p8_c ∧ p8_c < (↑p0_loads_n : Int)) ∧
                        ∃ a,
                          p0_loads_a = some a ∧
                            ∃ n,
                              World.cell? w' (Addr.add a (Int.toNat p8_c * 1)) =
                                  some (Value.int IntKind.i64 n) ∧
                                (decide (n < p6_low) = true →
                                    ((0 : Int) ≤ p8_c ∧ p8_c < (↑p0_loads_n : Int)) ∧
                                      ∃ a,
                                        p0_loads_a = some a ∧
                                          ∃ n,
                                            World.cell? w' (Addr.add a (Int.toNat p8_c * 1)) =
                                                some (Value.int IntKind.i64 n) ∧
                                              CutD Tryd.prog M13 c13_3
                                                (e13_3 p0_loads_a p0_loads_n p0_loads_c p1_of p5_some n p7_high
                                                  p8_c)
                                                w' (k13_3 B13_1 R)) ∧
                                  (decide (n < p6_low) = false →
                                    CutD Tryd.prog M13 c13_3
                                      (e13_3 p0_loads_a p0_loads_n p0_loads_c p1_of p5_some p6_low p7_high p8_c)
                                      w' (k13_3 B13_1 R))) ∧
                    ((!p5_some) = true →
                      ((0 : Int) ≤ p8_c ∧ p8_c < (↑p0_loads_n : Int)) ∧
                        ∃ a,
                          p0_loads_a = some a ∧
                            ∃ n,
                              World.cell? w' (Addr.add a (Int.toNat p8_c * 1)) =
                                  some (Value.int IntKind.i64 n) ∧
                                CutD Tryd.prog M13 c13_3
                                  (e13_3 p0_loads_a p0_loads_n p0_loads_c p1_of p5_some n p7_high p8_c) w'
                                  (k13_3 B13_1 R)))) ∧
      (decide (p8_c < (64 : Int)) = false →
        R (Ending.returned (Value.int IntKind.i64 (IntKind.wrap IntKind.i64 (p7_high - p6_low)))) w)) ∧
  (decide (p8_c < (↑p0_loads_n : Int)) = false →
    R (Ending.returned (Value.int IntKind.i64 (IntKind.wrap IntKind.i64 (p7_high - p6_low)))) w)) := by kernel_rfl
theorem t13_3 (p0_loads_a : Option Addr) (p0_loads_n : Nat) (p0_loads_c : Nat) (p1_of : Int) (p5_some : Bool) (p6_low : Int) (p7_high : Int) (p8_c : Int) (w : World) (B13_1 : Env → World → Prop) (R : Ending → World → Prop) : den Tryd.prog M13 c13_3 (e13_3 p0_loads_a p0_loads_n p0_loads_c p1_of p5_some p6_low p7_high p8_c) w (k13_3 B13_1 R) =
(((!p5_some) = false →
    ((0 : Int) ≤ p8_c ∧ p8_c < (↑p0_loads_n : Int)) ∧
      ∃ a,
        p0_loads_a = some a ∧
          ∃ n,
            World.cell? w (Addr.add a (Int.toNat p8_c * 1)) = some (Value.int IntKind.i64 n) ∧
              (decide (n > p7_high) = true →
                  ((0 : Int) ≤ p8_c ∧ p8_c < (↑p0_loads_n : Int)) ∧
                    ∃ a,
                      p0_loads_a = some a ∧
                        ∃ n,
                          World.cell? w (Addr.add a (Int.toNat p8_c * 1)) = some (Value.int IntKind.i64 n) ∧
                            B13_1
                              [(0, SV.v (Value.slice p0_loads_a p0_loads_n p0_loads_c)),
                                (1, SV.v (Value.int IntKind.u64 p1_of)), (5, SV.b true),
                                (6, SV.v (Value.int IntKind.i64 p6_low)),
                                (7, SV.v (Value.int IntKind.i64 n)),
                                (8,
                                  SV.v (Value.int IntKind.i64 (IntKind.wrap IntKind.i64 (p8_c + (1 : Int)))))]
                              w) ∧
                (decide (n > p7_high) = false →
                  B13_1
                    [(0, SV.v (Value.slice p0_loads_a p0_loads_n p0_loads_c)),
                      (1, SV.v (Value.int IntKind.u64 p1_of)), (5, SV.b true),
                      (6, SV.v (Value.int IntKind.i64 p6_low)),
                      (7, SV.v (Value.int IntKind.i64 p7_high)),
                      (8, SV.v (Value.int IntKind.i64 (IntKind.wrap IntKind.i64 (p8_c + (1 : Int)))))]
                    w)) ∧
  ((!p5_some) = true →
    ((0 : Int) ≤ p8_c ∧ p8_c < (↑p0_loads_n : Int)) ∧
      ∃ a,
        p0_loads_a = some a ∧
          ∃ n,
            World.cell? w (Addr.add a (Int.toNat p8_c * 1)) = some (Value.int IntKind.i64 n) ∧
              B13_1
                [(0, SV.v (Value.slice p0_loads_a p0_loads_n p0_loads_c)),
                  (1, SV.v (Value.int IntKind.u64 p1_of)), (5, SV.b true),
                  (6, SV.v (Value.int IntKind.i64 p6_low)), (7, SV.v (Value.int IntKind.i64 n)),
                  (8, SV.v (Value.int IntKind.i64 (IntKind.wrap IntKind.i64 (p8_c + (1 : Int)))))]
                w)) := by kernel_rfl
/-! davit/spread.Weight -/
def M14 : Mt := { N := 25, keep := [(0, [0]), (1, [0, 3]), (2, [3, 6, 7, 8]), (3, [3, 6, 7, 8, 9]), (4, [3, 5, 6, 7, 8]), (5, [3, 5, 6, 7, 8, 17]), (6, [3, 6, 7, 8]), (7, [3, 6, 7, 8]), (8, [2])], ords := [], bk := [(0, [3]), (1, [3, 6, 7, 8])], cuts := [], lk := [(3, [3, 6, 7, 8])] }
noncomputable def c14 : Code := bodyOf Tryd.f14
noncomputable def c14_0 : Code := c14.sr.sr.sr
noncomputable def c14_1 : Code := c14.sr.sr.sl.sr.sl.sl
def e14_1 (p3_sum : Int) (p6_t_a : Option Addr) (p6_t_n : Nat) (p6_t_c : Nat) (p7_t : Int) (p8_t : Int) : Env := [(3, SV.v (Value.int IntKind.i64 p3_sum)), (6, SV.v (Value.slice p6_t_a p6_t_n p6_t_c)), (7, SV.v (Value.int IntKind.i64 p7_t)), (8, SV.v (Value.int IntKind.i64 p8_t))]
def k14_1 (R : Ending → World → Prop) : Cont := blockK 0 [3] (seqK (fun E w => cutB (findL M14.cuts (headReg c14_0)) Tryd.prog M14 c14_0 E w (retK Tryd.prog Tryd.f14.results.toList R) fun E => den Tryd.prog M14 c14_0 E w (retK Tryd.prog Tryd.f14.results.toList R)) (retK Tryd.prog Tryd.f14.results.toList R))
theorem b14 : Tryd.f14.body = some c14 := by kernel_rfl
theorem n14 : Tryd.f14.ntmps = M14.N := by kernel_rfl
set_option maxRecDepth 100000 in
theorem u14 {p0_loads_a : Option Addr} {p0_loads_n : Nat} {p0_loads_c : Nat} {w : World} {R : Ending → World → Prop} (h : den Tryd.prog M14 c14 (argE 0 [(Value.slice p0_loads_a p0_loads_n p0_loads_c)]) w (retK Tryd.prog Tryd.f14.results.toList R)) : Calls Tryd.prog 14 #[(Value.slice p0_loads_a p0_loads_n p0_loads_c)] w R := calls_den okProg Tryd.func14 b14 n14 (Nat.le_of_ble_eq_true rfl) h
theorem t14 (p0_loads_a : Option Addr) (p0_loads_n : Nat) (p0_loads_c : Nat) (w : World) (R : Ending → World → Prop) : den Tryd.prog M14 c14 (argE 0 [(Value.slice p0_loads_a p0_loads_n p0_loads_c)]) w (retK Tryd.prog Tryd.f14.results.toList R) =
(Cut
  (WP Tryd.prog 25 (Code.loop c14_1)
    (e14_1 (0 : Int) p0_loads_a p0_loads_n p0_loads_c (↑p0_loads_n : Int) (0 : Int)) w (k14_1 R))) := by kernel_rfl
theorem t14_1 (p3_sum : Int) (p6_t_a : Option Addr) (p6_t_n : Nat) (p6_t_c : Nat) (p7_t : Int) (p8_t : Int) (w : World) (B14_1 : Env → World → Prop) (R : Ending → World → Prop) : den Tryd.prog M14 c14_1 (e14_1 p3_sum p6_t_a p6_t_n p6_t_c p7_t p8_t) w (loopK B14_1 (k14_1 R)) =
((decide (p8_t < p7_t) = true →
    ((0 : Int) ≤ p8_t ∧ p8_t < (↑p6_t_n : Int)) ∧
      ∃ a,
        p6_t_a = some a ∧
          ∃ n,
            World.cell? w (Addr.add a (Int.toNat p8_t * 1)) = some (Value.int IntKind.i64 n) ∧
              (decide (n ≥ (0 : Int)) = true →
                  (decide (n ≤ (1048576 : Int)) = true →
                      B14_1
                        [(3,
                            SV.v
                              (Value.int IntKind.i64
                                (IntKind.wrap IntKind.i64 (p3_sum + IntKind.wrap IntKind.i64 (n * n))))),
                          (6, SV.v (Value.slice p6_t_a p6_t_n p6_t_c)),
                          (7, SV.v (Value.int IntKind.i64 p7_t)),
                          (8, SV.v (Value.int IntKind.i64 (IntKind.wrap IntKind.i64 (p8_t + (1 : Int)))))]
                        w) ∧
                    (decide (n ≤ (1048576 : Int)) = false →
                      B14_1
                        [(3, SV.v (Value.int IntKind.i64 p3_sum)),
                          (6, SV.v (Value.slice p6_t_a p6_t_n p6_t_c)),
                          (7, SV.v (Value.int IntKind.i64 p7_t)),
                          (8, SV.v (Value.int IntKind.i64 (IntKind.wrap IntKind.i64 (p8_t + (1 : Int)))))]
                        w)) ∧
                (decide (n ≥ (0 : Int)) = false →
                  B14_1
                    [(3, SV.v (Value.int IntKind.i64 p3_sum)),
                      (6, SV.v (Value.slice p6_t_a p6_t_n p6_t_c)),
                      (7, SV.v (Value.int IntKind.i64 p7_t)),
                      (8, SV.v (Value.int IntKind.i64 (IntKind.wrap IntKind.i64 (p8_t + (1 : Int)))))]
                    w)) ∧
  (decide (p8_t < p7_t) = false → R (Ending.returned (Value.int IntKind.i64 p3_sum)) w)) := by kernel_rfl
/-! davit/davitref39.Weight -/
def M15 : Mt := { N := 35, keep := [(0, [0]), (1, [0, 3]), (2, [0, 3, 4]), (3, [0, 3, 4, 8]), (4, [0, 3, 4]), (5, [0, 3, 4, 22]), (6, [0, 3, 4]), (7, [2])], ords := [(6, [0, 1, 2, 3, 4, 5, 6, 7, 8, 9, 10, 11])], bk := [(0, [3]), (1, [0, 3, 4])], cuts := [], lk := [(3, [0, 3, 4])] }
noncomputable def c15 : Code := bodyOf Tryd.f15
noncomputable def c15_0 : Code := c15.sr.sr.sr
noncomputable def c15_1 : Code := c15.sr.sr.sl.sr.sl.sl
def e15_1 (p0_loads_a : Option Addr) (p0_loads_n : Nat) (p0_loads_c : Nat) (p3_n : Int) (p4_i : Int) : Env := [(0, SV.v (Value.slice p0_loads_a p0_loads_n p0_loads_c)), (3, SV.v (Value.int IntKind.i64 p3_n)), (4, SV.v (Value.int IntKind.i64 p4_i))]
def k15_1 (R : Ending → World → Prop) : Cont := blockK 0 [3] (seqK (fun E w => cutB (findL M15.cuts (headReg c15_0)) Tryd.prog M15 c15_0 E w (retK Tryd.prog Tryd.f15.results.toList R) fun E => den Tryd.prog M15 c15_0 E w (retK Tryd.prog Tryd.f15.results.toList R)) (retK Tryd.prog Tryd.f15.results.toList R))
theorem b15 : Tryd.f15.body = some c15 := by kernel_rfl
theorem n15 : Tryd.f15.ntmps = M15.N := by kernel_rfl
set_option maxRecDepth 100000 in
theorem u15 {p0_loads_a : Option Addr} {p0_loads_n : Nat} {p0_loads_c : Nat} {w : World} {R : Ending → World → Prop} (h : den Tryd.prog M15 c15 (argE 0 [(Value.slice p0_loads_a p0_loads_n p0_loads_c)]) w (retK Tryd.prog Tryd.f15.results.toList R)) : Calls Tryd.prog 15 #[(Value.slice p0_loads_a p0_loads_n p0_loads_c)] w R := calls_den okProg Tryd.func15 b15 n15 (Nat.le_of_ble_eq_true rfl) h
theorem t15 (p0_loads_a : Option Addr) (p0_loads_n : Nat) (p0_loads_c : Nat) (w : World) (R : Ending → World → Prop) : den Tryd.prog M15 c15 (argE 0 [(Value.slice p0_loads_a p0_loads_n p0_loads_c)]) w (retK Tryd.prog Tryd.f15.results.toList R) =
(Cut
  (WP Tryd.prog 35 (Code.loop c15_1) (e15_1 p0_loads_a p0_loads_n p0_loads_c (0 : Int) (0 : Int)) w
    (k15_1 R))) := by kernel_rfl
theorem t15_1 (p0_loads_a : Option Addr) (p0_loads_n : Nat) (p0_loads_c : Nat) (p3_n : Int) (p4_i : Int) (w : World) (B15_1 : Env → World → Prop) (R : Ending → World → Prop) : den Tryd.prog M15 c15_1 (e15_1 p0_loads_a p0_loads_n p0_loads_c p3_n p4_i) w (loopK B15_1 (k15_1 R)) =
((decide (p4_i < (↑p0_loads_n : Int)) = true →
    ((0 : Int) ≤ p4_i ∧ p4_i < (↑p0_loads_n : Int)) ∧
      ∃ a,
        p0_loads_a = some a ∧
          ∃ n,
            World.cell? w (Addr.add a (Int.toNat p4_i * 1)) = some (Value.int IntKind.i64 n) ∧
              (decide (n ≥ (0 : Int)) = true →
                  ((0 : Int) ≤ p4_i ∧ p4_i < (↑p0_loads_n : Int)) ∧
                    ∃ a,
                      p0_loads_a = some a ∧
                        ∃ n,
                          World.cell? w (Addr.add a (Int.toNat p4_i * 1)) = some (Value.int IntKind.i64 n) ∧
                            (decide (n ≤ (1048576 : Int)) = true →
                                ∀ (w' : World),
                                  World.heap w' = World.heap w →
                                    World.os w' = World.os w →
                                      World.tape w' = World.tape w →
                                        World.output w' = World.output w →
                                          ((0 : Int) ≤ p4_i ∧ p4_i < (↑p0_loads_n : Int)) ∧
                                            ∃ a,
                                              p0_loads_a = some a ∧
                                                ∃ n,
                                                  World.cell? w' (Addr.add a (Int.toNat p4_i * 1)) =
                                                      some (Value.int IntKind.i64 n) ∧
                                                    ((0 : Int) ≤ p4_i ∧ p4_i < (↑p0_loads_n : Int)) ∧
                                                      ∃ a,
                                                        p0_loads_a = some a ∧
                                                          ∃ n_1,
                                                            World.cell? w' (Addr.add a (Int.toNat p4_i * 1)) =
                                                                some (Value.int IntKind.i64 n_1) ∧
                                                              B15_1
                                                                [(0,
                                                                    SV.v
                                                                      (Value.slice p0_loads_a p0_loads_n
                                                                        p0_loads_c)),
                                                                  (3,
                                                                    SV.v
                                                                      (Value.int IntKind.i64
                                                                        (IntKind.wrap IntKind.i64
                                                                          (p3_n +
                                                                            IntKind.wrap IntKind.i64 (n * n_1))))),
                                                                  (4,
                                                                    SV.v
                                                                      (Value.int IntKind.i64
                                                                        (IntKind.wrap IntKind.i64
                                                                          (p4_i + (1 : Int)))))]
                                                                w') ∧
                              (decide (n ≤ (1048576 : Int)) = false →
                                B15_1
                                  [(0, SV.v (Value.slice p0_loads_a p0_loads_n p0_loads_c)),
                                    (3, SV.v (Value.int IntKind.i64 p3_n)),
                                    (4,
                                      SV.v (Value.int IntKind.i64 (IntKind.wrap IntKind.i64 (p4_i + (1 : Int)))))]
                                  w)) ∧
                (decide (n ≥ (0 : Int)) = false →
                  B15_1
                    [(0, SV.v (Value.slice p0_loads_a p0_loads_n p0_loads_c)),
                      (3, SV.v (Value.int IntKind.i64 p3_n)),
                      (4, SV.v (Value.int IntKind.i64 (IntKind.wrap IntKind.i64 (p4_i + (1 : Int)))))]
                    w)) ∧
  (decide (p4_i < (↑p0_loads_n : Int)) = false → R (Ending.returned (Value.int IntKind.i64 p3_n)) w)) := by kernel_rfl
/-! davit/spread.Plan -/
def M16 : Mt := { N := 79, keep := [(0, [0, 1, 2]), (1, [0, 1, 2, 8]), (2, [0, 1, 2, 8, 19]), (3, [6, 7]), (4, [0, 1, 2]), (5, [1, 2, 9]), (6, [1, 2, 9, 10]), (7, [1, 2, 9, 10, 11]), (8, [1, 2, 9, 10, 11, 12]), (9, [1, 2, 9, 10, 11, 12, 13]), (10, [1, 2, 9, 10, 11, 12, 13, 49]), (11, [6, 7]), (12, [1, 2, 9, 10, 11, 12, 13]), (13, [1, 2, 9, 10, 11, 12]), (14, [1, 2, 9, 10, 12]), (15, [1, 2, 9, 10])], ords := [(10, [0, 1, 2, 3, 4, 5, 6, 7, 8, 9, 10, 11, 12, 13])], bk := [(0, [6, 7]), (1, [1, 2, 9, 10])], cuts := [], lk := [(7, [1, 2, 9, 10])] }
noncomputable def c16 : Code := bodyOf Tryd.f16
noncomputable def c16_0 : Code := c16.sr.sr.sr.sr.sr.sl.sl
def e16_0 (p1_active : Int) (p2_l_a : Option Addr) (p2_l_n : Nat) (p2_l_c : Nat) (p9_loads_a : Option Addr) (p9_loads_n : Nat) (p9_loads_c : Nat) (p10_out_a : Option Addr) (p10_out_n : Nat) (p10_out_c : Nat) : Env := [(1, SV.v (Value.int IntKind.u64 p1_active)), (2, SV.v (Value.slice p2_l_a p2_l_n p2_l_c)), (9, SV.v (Value.slice p9_loads_a p9_loads_n p9_loads_c)), (10, SV.v (Value.slice p10_out_a p10_out_n p10_out_c))]
def k16_0 (R : Ending → World → Prop) : Cont := blockK 0 [6, 7] (retK Tryd.prog Tryd.f16.results.toList R)
theorem b16 : Tryd.f16.body = some c16 := by kernel_rfl
theorem n16 : Tryd.f16.ntmps = M16.N := by kernel_rfl
set_option maxRecDepth 100000 in
theorem u16 {p0_cpus : Int} {p1_active : Int} {p2_l_a : Option Addr} {p2_l_n : Nat} {p2_l_c : Nat} {w : World} {R : Ending → World → Prop} (h : den Tryd.prog M16 c16 (argE 0 [(Value.int IntKind.i64 p0_cpus), (Value.int IntKind.u64 p1_active), (Value.slice p2_l_a p2_l_n p2_l_c)]) w (retK Tryd.prog Tryd.f16.results.toList R)) : Calls Tryd.prog 16 #[(Value.int IntKind.i64 p0_cpus), (Value.int IntKind.u64 p1_active), (Value.slice p2_l_a p2_l_n p2_l_c)] w R := calls_den okProg Tryd.func16 b16 n16 (Nat.le_of_ble_eq_true rfl) h
theorem t16 (p0_cpus : Int) (p1_active : Int) (p2_l_a : Option Addr) (p2_l_n : Nat) (p2_l_c : Nat) (w : World) (R : Ending → World → Prop) : den Tryd.prog M16 c16 (argE 0 [(Value.int IntKind.i64 p0_cpus), (Value.int IntKind.u64 p1_active), (Value.slice p2_l_a p2_l_n p2_l_c)]) w (retK Tryd.prog Tryd.f16.results.toList R) =
(Call Tryd.prog 32
  [Value.int IntKind.i64 p0_cpus, Value.int IntKind.u64 p1_active, Value.slice p2_l_a p2_l_n p2_l_c] w fun e w' =>
  ∃ n,
    e = Ending.returned (Value.int IntKind.i64 n) ∧
      ((n != (0 : Int)) = true →
          R (Ending.returned (Value.tuple #[Value.slice none 0 0, Value.int IntKind.i64 n])) w') ∧
        ((n != (0 : Int)) = false →
          Call Tryd.prog 33 [Value.slice p2_l_a p2_l_n p2_l_c] w' fun e w' =>
            ∃ p n c,
              e = Ending.returned (Value.slice p n c) ∧
                Call Tryd.prog 9 [Value.int IntKind.i64 p0_cpus, Value.slice p n c] w' fun e w' =>
                  ∃ p_1 n_1 c_1,
                    e = Ending.returned (Value.slice p_1 n_1 c_1) ∧
                      Cut
                        (WP Tryd.prog 79 (Code.loop c16_0)
                          (e16_0 p1_active p n c p_1 n_1 c_1 none 0 0) w' (k16_0 R)))) := by kernel_rfl
theorem t16_0 (p1_active : Int) (p2_l_a : Option Addr) (p2_l_n : Nat) (p2_l_c : Nat) (p9_loads_a : Option Addr) (p9_loads_n : Nat) (p9_loads_c : Nat) (p10_out_a : Option Addr) (p10_out_n : Nat) (p10_out_c : Nat) (w : World) (B16_0 : Env → World → Prop) (R : Ending → World → Prop) : den Tryd.prog M16 c16_0 (e16_0 p1_active p2_l_a p2_l_n p2_l_c p9_loads_a p9_loads_n p9_loads_c p10_out_a p10_out_n p10_out_c) w (loopK B16_0 (k16_0 R)) =
(Call Tryd.prog 34
  [Value.slice p9_loads_a p9_loads_n p9_loads_c, Value.int IntKind.u64 p1_active,
    Value.func (Fn.func 35) #[] #[]]
  w fun e w' =>
  ∃ n,
    e = Ending.returned (Value.int IntKind.i64 n) ∧
      Call Tryd.prog 34
        [Value.slice p9_loads_a p9_loads_n p9_loads_c, Value.int IntKind.u64 p1_active,
          Value.func (Fn.func 36) #[] #[]]
        w' fun e w' =>
        ∃ n_1,
          e = Ending.returned (Value.int IntKind.i64 n_1) ∧
            Call Tryd.prog 37
              [Value.slice p2_l_a p2_l_n p2_l_c, Value.int IntKind.i64 n, Value.int IntKind.i64 n_1] w' fun e w' =>
              ∃ n_2,
                e = Ending.returned (Value.int IntKind.i64 n_2) ∧
                  ∀ (w'_1 : World),
                    World.heap w'_1 = World.heap w' →
                      World.os w'_1 = World.os w' →
                        World.tape w'_1 = World.tape w' →
                          World.output w'_1 = World.output w' →
                            ((0 : Int) ≤ n ∧ n < (↑p9_loads_n : Int)) ∧
                              ∃ a,
                                p9_loads_a = some a ∧
                                  ∃ n_3,
                                    World.cell? w'_1 (Addr.add a (Int.toNat n * 1)) =
                                        some (Value.int IntKind.i64 n_3) ∧
                                      ((0 : Int) ≤ n_1 ∧ n_1 < (↑p9_loads_n : Int)) ∧
                                        ∃ a,
                                          p9_loads_a = some a ∧
                                            ∃ n_4,
                                              World.cell? w'_1 (Addr.add a (Int.toNat n_1 * 1)) =
                                                  some (Value.int IntKind.i64 n_4) ∧
                                                (decide (IntKind.wrap IntKind.i64 (n_3 - n_4) < (2 : Int)) = false →
                                                    (decide (n_2 < (0 : Int)) = true →
                                                        R
                                                          (Ending.returned
                                                            (Value.tuple
                                                              #[Value.slice p10_out_a p10_out_n p10_out_c,
                                                                Value.int IntKind.i64 0]))
                                                          w'_1) ∧
                                                      (decide (n_2 < (0 : Int)) = false →
                                                        ((0 : Int) ≤ n_2 ∧ n_2 < (↑p2_l_n : Int)) ∧
                                                          ∃ a,
                                                            p2_l_a = some a ∧
                                                              ∃ n_5,
                                                                World.cell? w'_1
                                                                      (Addr.add (Addr.add a (Int.toNat n_2 * 3))
                                                                        0) =
                                                                    some (Value.int IntKind.i64 n_5) ∧
                                                                  New w'_1
                                                                    [Value.int IntKind.i64 n_5, Value.int IntKind.i64 n,
                                                                      Value.int IntKind.i64 n_1]
                                                                    57 fun p w' =>
                                                                    ∃ p_1 n_6 c w'_2,
                                                                      Sem.run Tryd.prog
                                                                            (Builtin.append_ #[37, 37]
                                                                              37
                                                                              #[Value.slice p10_out_a p10_out_n
                                                                                  p10_out_c,
                                                                                Value.slice (some p) 1
                                                                                  1])
                                                                            w' =
                                                                          Result.ok (Value.slice p_1 n_6 c) w'_2 ∧
                                                                        ((0 : Int) ≤ n_2 ∧ n_2 < (↑p2_l_n : Int)) ∧
                                                                          ∃ a,
                                                                            p2_l_a = some a ∧
                                                                              Wr w'_2
                                                                                (Addr.add
                                                                                  (Addr.add a
                                                                                    (Int.toNat n_2 * 3))
                                                                                  1)
                                                                                [Value.int IntKind.i64 n_1] fun w' =>
                                                                                ((0 : Int) ≤ n ∧
                                                                                    n < (↑p9_loads_n : Int)) ∧
                                                                                  ∃ a,
                                                                                    p9_loads_a = some a ∧
                                                                                      ∃ n_7,
                                                                                        World.cell? w'
                                                                                              (Addr.add a
                                                                                                (Int.toNat n *
                                                                                                  1)) =
                                                                                            some
                                                                                              (Value.int IntKind.i64
                                                                                                n_7) ∧
                                                                                          ((0 : Int) ≤ n ∧
                                                                                              n <
                                                                                                (↑p9_loads_n : Int)) ∧
                                                                                            ∃ a,
                                                                                              p9_loads_a = some a ∧
                                                                                                Wr w'
                                                                                                  (Addr.add a
                                                                                                    (Int.toNat n *
                                                                                                      1))
                                                                                                  [Value.int IntKind.i64
                                                                                                      (IntKind.wrap
                                                                                                        IntKind.i64
                                                                                                        (n_7 -
                                                                                                          (1 : Int)))]
                                                                                                  fun w' =>
                                                                                                  ((0 : Int) ≤ n_1 ∧
                                                                                                      n_1 <
                                                                                                        (↑p9_loads_n :
                                                                                                          Int)) ∧
                                                                                                    ∃ a,
                                                                                                      p9_loads_a =
                                                                                                          some a ∧
                                                                                                        ∃ n,
                                                                                                          World.cell? w'
                                                                                                                (Addr.add
                                                                                                                  a
                                                                                                                  (Int.toNat
                                                                                                                      n_1 *
                                                                                                                    1)) =
                                                                                                              some
                                                                                                                (Value.int
                                                                                                                  IntKind.i64
                                                                                                                  n) ∧
                                                                                                            ((0 : Int) ≤
                                                                                                                  n_1 ∧
                                                                                                                n_1 <
                                                                                                                  (↑p9_loads_n :
                                                                                                                    Int)) ∧
                                                                                                              ∃ a,
                                                                                                                p9_loads_a =
                                                                                                                    some
                                                                                                                      a ∧
                                                                                                                  Wr w'
                                                                                                                    (Addr.add
                                                                                                                      a
                                                                                                                      (Int.toNat
                                                                                                                          n_1 *
                                                                                                                        1))
                                                                                                                    [Value.int
                                                                                                                        IntKind.i64
                                                                                                                        (IntKind.wrap
                                                                                                                          IntKind.i64
                                                                                                                          (n +
                                                                                                                            (1 :
                                                                                                                              Int)))]
                                                                                                                    fun
                                                                                                                      w' =>
                                                                                                                    B16_0
                                                                                                                      [(1,
                                                                                                                          SV.v
                                                                                                                            (Value.int
                                                                                                                              IntKind.u64
                                                                                                                              p1_active)),
                                                                                                                        (2,
                                                                                                                          SV.v
                                                                                                                            (Value.slice
                                                                                                                              p2_l_a
                                                                                                                              p2_l_n
                                                                                                                              p2_l_c)),
                                                                                                                        (9,
                                                                                                                          SV.v
                                                                                                                            (Value.slice
                                                                                                                              p9_loads_a
                                                                                                                              p9_loads_n
                                                                                                                              p9_loads_c)),
                                                                                                                        (10,
                                                                                                                          SV.v
                                                                                                                            (Value.slice
                                                                                                                              p_1
                                                                                                                              n_6
                                                                                                                              c))]
                                                                                                                      w')) ∧
                                                  (decide (IntKind.wrap IntKind.i64 (n_3 - n_4) < (2 : Int)) = true →
                                                    R
                                                      (Ending.returned
                                                        (Value.tuple
                                                          #[Value.slice p10_out_a p10_out_n p10_out_c,
                                                            Value.int IntKind.i64 0]))
                                                      w'_1)) := by kernel_rfl
/-! davit/davitref39.Plan -/
def M17 : Mt := { N := 103, keep := [(0, [0, 1, 2]), (1, [1, 2, 31]), (2, [6, 7]), (3, [1, 2, 34]), (4, [6, 7]), (5, [1, 2, 37]), (6, [6, 7]), (7, [1, 2, 8]), (8, [1, 8]), (9, [1, 8, 9]), (10, [1, 8, 9, 10]), (11, [1, 8, 9, 10, 42]), (12, [1, 8, 9, 10]), (13, [1, 8, 9, 10, 11]), (14, [1, 8, 9, 10, 11, 12]), (15, [1, 8, 9, 10, 11, 12, 58]), (16, [6, 7]), (17, [1, 8, 9, 10, 11, 12, 13]), (18, [1, 8, 9, 10, 11, 12, 13, 14]), (19, [1, 8, 9, 10, 11, 12, 13, 14, 63]), (20, [1, 8, 9, 10, 11, 12, 13, 14]), (21, [1, 8, 9, 10, 11, 12, 13, 14, 81]), (22, [1, 8, 9, 10, 11, 12, 13, 14]), (23, [1, 8, 9, 10, 11, 12, 13, 84]), (24, [6, 7]), (25, [1, 8, 9, 10, 12, 13]), (26, [1, 8, 9, 10]), (27, [6, 7])], ords := [], bk := [(0, [9]), (1, [1, 8, 9, 10]), (2, [1, 8, 9, 10, 11, 12, 13]), (3, [1, 8, 9, 10, 11, 12, 13, 14])], cuts := [(23, [1, 8, 9, 10, 11, 12, 13])], lk := [(11, [1, 8, 9, 10]), (19, [1, 8, 9, 10, 11, 12, 13, 14])] }
noncomputable def c17 : Code := bodyOf Tryd.f17
noncomputable def c17_0 : Code := c17.sr.sr.sr.sr.sr.sr.sr.sr
noncomputable def c17_1 : Code := c17.sr.sr.sr.sr.sr.sr.sr.sl.sr.sl.sl
noncomputable def c17_2 : Code := c17.sr.sr.sr.sr.sr.sr.sr.sl.sr.sl.sl.sr.sr
noncomputable def c17_3 : Code := c17.sr.sr.sr.sr.sr.sr.sr.sl.sr.sl.sl.sr.sl.sl.sr.sr.sr.sr.sr
noncomputable def c17_4 : Code := c17.sr.sr.sr.sr.sr.sr.sr.sl.sr.sl.sl.sr.sl.sl.sr.sr.sr.sr.sl.sr.sl.sl
def e17_1 (p1_active : Int) (p8_now_a : Option Addr) (p8_now_n : Nat) (p8_now_c : Nat) (p9_out_a : Option Addr) (p9_out_n : Nat) (p9_out_c : Nat) (p10_n : Int) : Env := [(1, SV.v (Value.int IntKind.u64 p1_active)), (8, SV.v (Value.slice p8_now_a p8_now_n p8_now_c)), (9, SV.v (Value.slice p9_out_a p9_out_n p9_out_c)), (10, SV.v (Value.int IntKind.i64 p10_n))]
def e17_3 (p1_active : Int) (p8_now_a : Option Addr) (p8_now_n : Nat) (p8_now_c : Nat) (p9_out_a : Option Addr) (p9_out_n : Nat) (p9_out_c : Nat) (p10_n : Int) (p11_a : Int) (p12_b : Int) (p13_at : Int) : Env := [(1, SV.v (Value.int IntKind.u64 p1_active)), (8, SV.v (Value.slice p8_now_a p8_now_n p8_now_c)), (9, SV.v (Value.slice p9_out_a p9_out_n p9_out_c)), (10, SV.v (Value.int IntKind.i64 p10_n)), (11, SV.v (Value.int IntKind.i64 p11_a)), (12, SV.v (Value.int IntKind.i64 p12_b)), (13, SV.v (Value.int IntKind.i64 p13_at))]
def e17_4 (p1_active : Int) (p8_now_a : Option Addr) (p8_now_n : Nat) (p8_now_c : Nat) (p9_out_a : Option Addr) (p9_out_n : Nat) (p9_out_c : Nat) (p10_n : Int) (p11_a : Int) (p12_b : Int) (p13_at : Int) (p14_i : Int) : Env := [(1, SV.v (Value.int IntKind.u64 p1_active)), (8, SV.v (Value.slice p8_now_a p8_now_n p8_now_c)), (9, SV.v (Value.slice p9_out_a p9_out_n p9_out_c)), (10, SV.v (Value.int IntKind.i64 p10_n)), (11, SV.v (Value.int IntKind.i64 p11_a)), (12, SV.v (Value.int IntKind.i64 p12_b)), (13, SV.v (Value.int IntKind.i64 p13_at)), (14, SV.v (Value.int IntKind.i64 p14_i))]
def k17_1 (R : Ending → World → Prop) : Cont := blockK 0 [9] (seqK (fun E w => cutB (findL M17.cuts (headReg c17_0)) Tryd.prog M17 c17_0 E w (retK Tryd.prog Tryd.f17.results.toList R) fun E => den Tryd.prog M17 c17_0 E w (retK Tryd.prog Tryd.f17.results.toList R)) (retK Tryd.prog Tryd.f17.results.toList R))
def k17_3 (B17_1 : Env → World → Prop) (R : Ending → World → Prop) : Cont := blockK 1 [1, 8, 9, 10] (seqK (fun E w => cutB (findL M17.cuts (headReg c17_2)) Tryd.prog M17 c17_2 E w (loopK B17_1 (blockK 0 [9] (seqK (fun E w => cutB (findL M17.cuts (headReg c17_0)) Tryd.prog M17 c17_0 E w (retK Tryd.prog Tryd.f17.results.toList R) fun E => den Tryd.prog M17 c17_0 E w (retK Tryd.prog Tryd.f17.results.toList R)) (retK Tryd.prog Tryd.f17.results.toList R)))) fun E => den Tryd.prog M17 c17_2 E w (loopK B17_1 (blockK 0 [9] (seqK (fun E w => cutB (findL M17.cuts (headReg c17_0)) Tryd.prog M17 c17_0 E w (retK Tryd.prog Tryd.f17.results.toList R) fun E => den Tryd.prog M17 c17_0 E w (retK Tryd.prog Tryd.f17.results.toList R)) (retK Tryd.prog Tryd.f17.results.toList R))))) (loopK B17_1 (blockK 0 [9] (seqK (fun E w => cutB (findL M17.cuts (headReg c17_0)) Tryd.prog M17 c17_0 E w (retK Tryd.prog Tryd.f17.results.toList R) fun E => den Tryd.prog M17 c17_0 E w (retK Tryd.prog Tryd.f17.results.toList R)) (retK Tryd.prog Tryd.f17.results.toList R)))))
def k17_4 (B17_1 : Env → World → Prop) (R : Ending → World → Prop) : Cont := blockK 2 [1, 8, 9, 10, 11, 12, 13] (seqK (fun E w => cutB (findL M17.cuts (headReg c17_3)) Tryd.prog M17 c17_3 E w (blockK 1 [1, 8, 9, 10] (seqK (fun E w => cutB (findL M17.cuts (headReg c17_2)) Tryd.prog M17 c17_2 E w (loopK B17_1 (blockK 0 [9] (seqK (fun E w => cutB (findL M17.cuts (headReg c17_0)) Tryd.prog M17 c17_0 E w (retK Tryd.prog Tryd.f17.results.toList R) fun E => den Tryd.prog M17 c17_0 E w (retK Tryd.prog Tryd.f17.results.toList R)) (retK Tryd.prog Tryd.f17.results.toList R)))) fun E => den Tryd.prog M17 c17_2 E w (loopK B17_1 (blockK 0 [9] (seqK (fun E w => cutB (findL M17.cuts (headReg c17_0)) Tryd.prog M17 c17_0 E w (retK Tryd.prog Tryd.f17.results.toList R) fun E => den Tryd.prog M17 c17_0 E w (retK Tryd.prog Tryd.f17.results.toList R)) (retK Tryd.prog Tryd.f17.results.toList R))))) (loopK B17_1 (blockK 0 [9] (seqK (fun E w => cutB (findL M17.cuts (headReg c17_0)) Tryd.prog M17 c17_0 E w (retK Tryd.prog Tryd.f17.results.toList R) fun E => den Tryd.prog M17 c17_0 E w (retK Tryd.prog Tryd.f17.results.toList R)) (retK Tryd.prog Tryd.f17.results.toList R)))))) fun E => den Tryd.prog M17 c17_3 E w (blockK 1 [1, 8, 9, 10] (seqK (fun E w => cutB (findL M17.cuts (headReg c17_2)) Tryd.prog M17 c17_2 E w (loopK B17_1 (blockK 0 [9] (seqK (fun E w => cutB (findL M17.cuts (headReg c17_0)) Tryd.prog M17 c17_0 E w (retK Tryd.prog Tryd.f17.results.toList R) fun E => den Tryd.prog M17 c17_0 E w (retK Tryd.prog Tryd.f17.results.toList R)) (retK Tryd.prog Tryd.f17.results.toList R)))) fun E => den Tryd.prog M17 c17_2 E w (loopK B17_1 (blockK 0 [9] (seqK (fun E w => cutB (findL M17.cuts (headReg c17_0)) Tryd.prog M17 c17_0 E w (retK Tryd.prog Tryd.f17.results.toList R) fun E => den Tryd.prog M17 c17_0 E w (retK Tryd.prog Tryd.f17.results.toList R)) (retK Tryd.prog Tryd.f17.results.toList R))))) (loopK B17_1 (blockK 0 [9] (seqK (fun E w => cutB (findL M17.cuts (headReg c17_0)) Tryd.prog M17 c17_0 E w (retK Tryd.prog Tryd.f17.results.toList R) fun E => den Tryd.prog M17 c17_0 E w (retK Tryd.prog Tryd.f17.results.toList R)) (retK Tryd.prog Tryd.f17.results.toList R))))))) (blockK 1 [1, 8, 9, 10] (seqK (fun E w => cutB (findL M17.cuts (headReg c17_2)) Tryd.prog M17 c17_2 E w (loopK B17_1 (blockK 0 [9] (seqK (fun E w => cutB (findL M17.cuts (headReg c17_0)) Tryd.prog M17 c17_0 E w (retK Tryd.prog Tryd.f17.results.toList R) fun E => den Tryd.prog M17 c17_0 E w (retK Tryd.prog Tryd.f17.results.toList R)) (retK Tryd.prog Tryd.f17.results.toList R)))) fun E => den Tryd.prog M17 c17_2 E w (loopK B17_1 (blockK 0 [9] (seqK (fun E w => cutB (findL M17.cuts (headReg c17_0)) Tryd.prog M17 c17_0 E w (retK Tryd.prog Tryd.f17.results.toList R) fun E => den Tryd.prog M17 c17_0 E w (retK Tryd.prog Tryd.f17.results.toList R)) (retK Tryd.prog Tryd.f17.results.toList R))))) (loopK B17_1 (blockK 0 [9] (seqK (fun E w => cutB (findL M17.cuts (headReg c17_0)) Tryd.prog M17 c17_0 E w (retK Tryd.prog Tryd.f17.results.toList R) fun E => den Tryd.prog M17 c17_0 E w (retK Tryd.prog Tryd.f17.results.toList R)) (retK Tryd.prog Tryd.f17.results.toList R)))))))
theorem b17 : Tryd.f17.body = some c17 := by kernel_rfl
theorem n17 : Tryd.f17.ntmps = M17.N := by kernel_rfl
set_option maxRecDepth 100000 in
theorem u17 {p0_cpus : Int} {p1_active : Int} {p2_l_a : Option Addr} {p2_l_n : Nat} {p2_l_c : Nat} {w : World} {R : Ending → World → Prop} (h : den Tryd.prog M17 c17 (argE 0 [(Value.int IntKind.i64 p0_cpus), (Value.int IntKind.u64 p1_active), (Value.slice p2_l_a p2_l_n p2_l_c)]) w (retK Tryd.prog Tryd.f17.results.toList R)) : Calls Tryd.prog 17 #[(Value.int IntKind.i64 p0_cpus), (Value.int IntKind.u64 p1_active), (Value.slice p2_l_a p2_l_n p2_l_c)] w R := calls_den okProg Tryd.func17 b17 n17 (Nat.le_of_ble_eq_true rfl) h
theorem t17 (p0_cpus : Int) (p1_active : Int) (p2_l_a : Option Addr) (p2_l_n : Nat) (p2_l_c : Nat) (w : World) (R : Ending → World → Prop) : den Tryd.prog M17 c17 (argE 0 [(Value.int IntKind.i64 p0_cpus), (Value.int IntKind.u64 p1_active), (Value.slice p2_l_a p2_l_n p2_l_c)]) w (retK Tryd.prog Tryd.f17.results.toList R) =
((decide (p0_cpus < (1 : Int)) = false →
    (decide (p0_cpus > (64 : Int)) = false →
        ((p1_active == (0 : Int)) = false →
            Call Tryd.prog 39 [Value.int IntKind.i64 p0_cpus] w fun e w' =>
              ∃ n,
                e = Ending.returned (Value.int IntKind.u64 n) ∧
                  Call Tryd.prog 38 [Value.int IntKind.u64 p1_active, Value.int IntKind.u64 n] w' fun e w' =>
                    ∃ n,
                      e = Ending.returned (Value.int IntKind.u64 n) ∧
                        ((n != (0 : Int)) = true →
                            R
                              (Ending.returned
                                (Value.tuple #[Value.slice none 0 0, Value.int IntKind.i64 2]))
                              w') ∧
                          ((n != (0 : Int)) = false →
                            (decide ((↑p2_l_n : Int) > (64 : Int)) = true →
                                R
                                  (Ending.returned
                                    (Value.tuple
                                      #[Value.slice none 0 0, Value.int IntKind.i64 15]))
                                  w') ∧
                              (decide ((↑p2_l_n : Int) > (64 : Int)) = false →
                                Call Tryd.prog 40
                                  [Value.int IntKind.u64 p1_active, Value.slice p2_l_a p2_l_n p2_l_c] w' fun e w' =>
                                  ∃ b,
                                    e = Ending.returned (Value.bool b) ∧
                                      (b = true →
                                          R
                                            (Ending.returned
                                              (Value.tuple
                                                #[Value.slice none 0 0,
                                                  Value.int IntKind.i64 2]))
                                            w') ∧
                                        (b = false →
                                          ∃ p n c w'_1,
                                            Sem.run Tryd.prog
                                                  (Builtin.append_ #[22, 22] 22
                                                    #[Value.slice none 0 0,
                                                      Value.slice p2_l_a p2_l_n p2_l_c])
                                                  w' =
                                                Result.ok (Value.slice p n c) w'_1 ∧
                                              Cut
                                                (WP Tryd.prog 103 (Code.loop c17_1)
                                                  (e17_1 p1_active p n c none 0 0 (0 : Int)) w'_1
                                                  (k17_1 R)))))) ∧
          ((p1_active == (0 : Int)) = true →
            R (Ending.returned (Value.tuple #[Value.slice none 0 0, Value.int IntKind.i64 2]))
              w)) ∧
      (decide (p0_cpus > (64 : Int)) = true →
        R (Ending.returned (Value.tuple #[Value.slice none 0 0, Value.int IntKind.i64 2]))
          w)) ∧
  (decide (p0_cpus < (1 : Int)) = true →
    R (Ending.returned (Value.tuple #[Value.slice none 0 0, Value.int IntKind.i64 2])) w)) := by kernel_rfl
theorem t17_1 (p1_active : Int) (p8_now_a : Option Addr) (p8_now_n : Nat) (p8_now_c : Nat) (p9_out_a : Option Addr) (p9_out_n : Nat) (p9_out_c : Nat) (p10_n : Int) (w : World) (B17_1 : Env → World → Prop) (R : Ending → World → Prop) : den Tryd.prog M17 c17_1 (e17_1 p1_active p8_now_a p8_now_n p8_now_c p9_out_a p9_out_n p9_out_c p10_n) w (loopK B17_1 (k17_1 R)) =
((decide (p10_n < (5000 : Int)) = true →
    Call Tryd.prog 41
      [Value.int IntKind.u64 p1_active, Value.slice p8_now_a p8_now_n p8_now_c, Value.bool true] w fun e w' =>
      ∃ n,
        e = Ending.returned (Value.int IntKind.i64 n) ∧
          Call Tryd.prog 41
            [Value.int IntKind.u64 p1_active, Value.slice p8_now_a p8_now_n p8_now_c, Value.bool false] w'
            fun e w' =>
            ∃ n_1,
              e = Ending.returned (Value.int IntKind.i64 n_1) ∧
                Call Tryd.prog 27 [Value.slice p8_now_a p8_now_n p8_now_c, Value.int IntKind.i64 n] w'
                  fun e w' =>
                  ∃ n_2,
                    e = Ending.returned (Value.int IntKind.i64 n_2) ∧
                      Call Tryd.prog 27 [Value.slice p8_now_a p8_now_n p8_now_c, Value.int IntKind.i64 n_1]
                        w' fun e w' =>
                        ∃ n_3,
                          e = Ending.returned (Value.int IntKind.i64 n_3) ∧
                            (decide (IntKind.wrap IntKind.i64 (n_2 - n_3) < (2 : Int)) = true →
                                R
                                  (Ending.returned
                                    (Value.tuple
                                      #[Value.slice p9_out_a p9_out_n p9_out_c, Value.int IntKind.i64 0]))
                                  w') ∧
                              (decide (IntKind.wrap IntKind.i64 (n_2 - n_3) < (2 : Int)) = false →
                                Cut
                                  (WP Tryd.prog 103 (Code.loop c17_4)
                                    (e17_4 p1_active p8_now_a p8_now_n p8_now_c p9_out_a p9_out_n p9_out_c p10_n
                                      n n_1 (-1 : Int) (0 : Int))
                                    w' (k17_4 B17_1 R)))) ∧
  (decide (p10_n < (5000 : Int)) = false →
    R (Ending.returned (Value.tuple #[Value.slice p9_out_a p9_out_n p9_out_c, Value.int IntKind.i64 0])) w)) := by kernel_rfl
theorem t17_3 (p1_active : Int) (p8_now_a : Option Addr) (p8_now_n : Nat) (p8_now_c : Nat) (p9_out_a : Option Addr) (p9_out_n : Nat) (p9_out_c : Nat) (p10_n : Int) (p11_a : Int) (p12_b : Int) (p13_at : Int) (w : World) (B17_1 : Env → World → Prop) (R : Ending → World → Prop) : den Tryd.prog M17 c17_3 (e17_3 p1_active p8_now_a p8_now_n p8_now_c p9_out_a p9_out_n p9_out_c p10_n p11_a p12_b p13_at) w (k17_3 B17_1 R) =
((decide (p13_at < (0 : Int)) = true →
    R (Ending.returned (Value.tuple #[Value.slice p9_out_a p9_out_n p9_out_c, Value.int IntKind.i64 0]))
      w) ∧
  (decide (p13_at < (0 : Int)) = false →
    ((0 : Int) ≤ p13_at ∧ p13_at < (↑p8_now_n : Int)) ∧
      ∃ a,
        p8_now_a = some a ∧
          ∃ n,
            World.cell? w (Addr.add (Addr.add a (Int.toNat p13_at * 3)) 0) =
                some (Value.int IntKind.i64 n) ∧
              New w [Value.int IntKind.i64 n, Value.int IntKind.i64 p11_a, Value.int IntKind.i64 p12_b] 74
                fun p w' =>
                ∃ p_1 n c w'_1,
                  Sem.run Tryd.prog
                        (Builtin.append_ #[36, 36] 36
                          #[Value.slice p9_out_a p9_out_n p9_out_c, Value.slice (some p) 1 1])
                        w' =
                      Result.ok (Value.slice p_1 n c) w'_1 ∧
                    ((0 : Int) ≤ p13_at ∧ p13_at < (↑p8_now_n : Int)) ∧
                      ∃ a,
                        p8_now_a = some a ∧
                          Wr w'_1 (Addr.add (Addr.add a (Int.toNat p13_at * 3)) 1)
                            [Value.int IntKind.i64 p12_b] fun w' =>
                            B17_1
                              [(1, SV.v (Value.int IntKind.u64 p1_active)),
                                (8, SV.v (Value.slice p8_now_a p8_now_n p8_now_c)),
                                (9, SV.v (Value.slice p_1 n c)),
                                (10,
                                  SV.v (Value.int IntKind.i64 (IntKind.wrap IntKind.i64 (p10_n + (1 : Int)))))]
                              w')) := by kernel_rfl
theorem t17_4 (p1_active : Int) (p8_now_a : Option Addr) (p8_now_n : Nat) (p8_now_c : Nat) (p9_out_a : Option Addr) (p9_out_n : Nat) (p9_out_c : Nat) (p10_n : Int) (p11_a : Int) (p12_b : Int) (p13_at : Int) (p14_i : Int) (w : World) (B17_1 : Env → World → Prop) (B17_4 : Env → World → Prop) (R : Ending → World → Prop) : den Tryd.prog M17 c17_4 (e17_4 p1_active p8_now_a p8_now_n p8_now_c p9_out_a p9_out_n p9_out_c p10_n p11_a p12_b p13_at p14_i) w (loopK B17_4 (k17_4 B17_1 R)) =
((decide (p14_i < (↑p8_now_n : Int)) = true →
    ((0 : Int) ≤ p14_i ∧ p14_i < (↑p8_now_n : Int)) ∧
      ∃ a,
        p8_now_a = some a ∧
          ∃ n,
            World.cell? w (Addr.add (Addr.add a (Int.toNat p14_i * 3)) 1) =
                some (Value.int IntKind.i64 n) ∧
              ((n == p11_a) = true →
                  ((0 : Int) ≤ p14_i ∧ p14_i < (↑p8_now_n : Int)) ∧
                    ∃ a,
                      p8_now_a = some a ∧
                        ∃ n,
                          World.cell? w (Addr.add (Addr.add a (Int.toNat p14_i * 3)) 2) =
                              some (Value.int IntKind.u64 n) ∧
                            Call Tryd.prog 31 [Value.int IntKind.u64 n, Value.int IntKind.i64 p12_b] w
                              fun e w' =>
                              ∃ b,
                                e = Ending.returned (Value.bool b) ∧
                                  (b = true →
                                      B17_4
                                        [(1, SV.v (Value.int IntKind.u64 p1_active)),
                                          (8, SV.v (Value.slice p8_now_a p8_now_n p8_now_c)),
                                          (9, SV.v (Value.slice p9_out_a p9_out_n p9_out_c)),
                                          (10, SV.v (Value.int IntKind.i64 p10_n)),
                                          (11, SV.v (Value.int IntKind.i64 p11_a)),
                                          (12, SV.v (Value.int IntKind.i64 p12_b)),
                                          (13, SV.v (Value.int IntKind.i64 p14_i)),
                                          (14,
                                            SV.v
                                              (Value.int IntKind.i64 (IntKind.wrap IntKind.i64 (p14_i + (1 : Int)))))]
                                        w') ∧
                                    (b = false →
                                      B17_4
                                        [(1, SV.v (Value.int IntKind.u64 p1_active)),
                                          (8, SV.v (Value.slice p8_now_a p8_now_n p8_now_c)),
                                          (9, SV.v (Value.slice p9_out_a p9_out_n p9_out_c)),
                                          (10, SV.v (Value.int IntKind.i64 p10_n)),
                                          (11, SV.v (Value.int IntKind.i64 p11_a)),
                                          (12, SV.v (Value.int IntKind.i64 p12_b)),
                                          (13, SV.v (Value.int IntKind.i64 p13_at)),
                                          (14,
                                            SV.v
                                              (Value.int IntKind.i64 (IntKind.wrap IntKind.i64 (p14_i + (1 : Int)))))]
                                        w')) ∧
                ((n == p11_a) = false →
                  B17_4
                    [(1, SV.v (Value.int IntKind.u64 p1_active)),
                      (8, SV.v (Value.slice p8_now_a p8_now_n p8_now_c)),
                      (9, SV.v (Value.slice p9_out_a p9_out_n p9_out_c)),
                      (10, SV.v (Value.int IntKind.i64 p10_n)),
                      (11, SV.v (Value.int IntKind.i64 p11_a)),
                      (12, SV.v (Value.int IntKind.i64 p12_b)),
                      (13, SV.v (Value.int IntKind.i64 p13_at)),
                      (14, SV.v (Value.int IntKind.i64 (IntKind.wrap IntKind.i64 (p14_i + (1 : Int)))))]
                    w)) ∧
  (decide (p14_i < (↑p8_now_n : Int)) = false →
    CutD Tryd.prog M17 c17_3
      (e17_3 p1_active p8_now_a p8_now_n p8_now_c p9_out_a p9_out_n p9_out_c p10_n p11_a p12_b p13_at) w
      (k17_3 B17_1 R))) := by kernel_rfl
/-! davit/spread.Apply -/
def M18 : Mt := { N := 30, keep := [(0, [0, 1]), (1, [0, 1]), (2, [0, 11, 12, 13]), (3, [0, 11, 12, 13, 14]), (4, [0, 7, 11, 12, 13]), (5, [0, 7, 8, 11, 12, 13]), (6, [0, 7, 8, 11, 12, 13, 21]), (7, [4, 5]), (8, [0, 11, 12, 13]), (9, [0, 11, 12, 13]), (10, [4, 5])], ords := [], bk := [(0, [0]), (1, [0, 11, 12, 13])], cuts := [], lk := [(3, [0, 11, 12, 13])] }
noncomputable def c18 : Code := bodyOf Tryd.f18
noncomputable def c18_0 : Code := c18.sr.sr.sr
noncomputable def c18_1 : Code := c18.sr.sr.sl.sr.sl.sl
def e18_1 (p0_l_a : Option Addr) (p0_l_n : Nat) (p0_l_c : Nat) (p11_t_a : Option Addr) (p11_t_n : Nat) (p11_t_c : Nat) (p12_t : Int) (p13_t : Int) : Env := [(0, SV.v (Value.slice p0_l_a p0_l_n p0_l_c)), (11, SV.v (Value.slice p11_t_a p11_t_n p11_t_c)), (12, SV.v (Value.int IntKind.i64 p12_t)), (13, SV.v (Value.int IntKind.i64 p13_t))]
def k18_1 (R : Ending → World → Prop) : Cont := blockK 0 [0] (seqK (fun E w => cutB (findL M18.cuts (headReg c18_0)) Tryd.prog M18 c18_0 E w (retK Tryd.prog Tryd.f18.results.toList R) fun E => den Tryd.prog M18 c18_0 E w (retK Tryd.prog Tryd.f18.results.toList R)) (retK Tryd.prog Tryd.f18.results.toList R))
theorem b18 : Tryd.f18.body = some c18 := by kernel_rfl
theorem n18 : Tryd.f18.ntmps = M18.N := by kernel_rfl
set_option maxRecDepth 100000 in
theorem u18 {p0_l_a : Option Addr} {p0_l_n : Nat} {p0_l_c : Nat} {p1_moves_a : Option Addr} {p1_moves_n : Nat} {p1_moves_c : Nat} {w : World} {R : Ending → World → Prop} (h : den Tryd.prog M18 c18 (argE 0 [(Value.slice p0_l_a p0_l_n p0_l_c), (Value.slice p1_moves_a p1_moves_n p1_moves_c)]) w (retK Tryd.prog Tryd.f18.results.toList R)) : Calls Tryd.prog 18 #[(Value.slice p0_l_a p0_l_n p0_l_c), (Value.slice p1_moves_a p1_moves_n p1_moves_c)] w R := calls_den okProg Tryd.func18 b18 n18 (Nat.le_of_ble_eq_true rfl) h
theorem t18 (p0_l_a : Option Addr) (p0_l_n : Nat) (p0_l_c : Nat) (p1_moves_a : Option Addr) (p1_moves_n : Nat) (p1_moves_c : Nat) (w : World) (R : Ending → World → Prop) : den Tryd.prog M18 c18 (argE 0 [(Value.slice p0_l_a p0_l_n p0_l_c), (Value.slice p1_moves_a p1_moves_n p1_moves_c)]) w (retK Tryd.prog Tryd.f18.results.toList R) =
(Call Tryd.prog 33 [Value.slice p0_l_a p0_l_n p0_l_c] w fun e w' =>
  ∃ p n c,
    e = Ending.returned (Value.slice p n c) ∧
      Cut
        (WP Tryd.prog 30 (Code.loop c18_1)
          (e18_1 p n c p1_moves_a p1_moves_n p1_moves_c (↑p1_moves_n : Int) (0 : Int)) w' (k18_1 R))) := by kernel_rfl
theorem t18_1 (p0_l_a : Option Addr) (p0_l_n : Nat) (p0_l_c : Nat) (p11_t_a : Option Addr) (p11_t_n : Nat) (p11_t_c : Nat) (p12_t : Int) (p13_t : Int) (w : World) (B18_1 : Env → World → Prop) (R : Ending → World → Prop) : den Tryd.prog M18 c18_1 (e18_1 p0_l_a p0_l_n p0_l_c p11_t_a p11_t_n p11_t_c p12_t p13_t) w (loopK B18_1 (k18_1 R)) =
((decide (p13_t < p12_t) = true →
    ((0 : Int) ≤ p13_t ∧ p13_t < (↑p11_t_n : Int)) ∧
      ∃ a,
        p11_t_a = some a ∧
          ∃ n,
            World.cell? w (Addr.add (Addr.add a (Int.toNat p13_t * 3)) 0) =
                some (Value.int IntKind.i64 n) ∧
              ∃ n_1,
                World.cell? w (Addr.add (Addr.add a (Int.toNat p13_t * 3)) 1) =
                    some (Value.int IntKind.i64 n_1) ∧
                  ∃ n_2,
                    World.cell? w (Addr.add (Addr.add a (Int.toNat p13_t * 3)) 2) =
                        some (Value.int IntKind.i64 n_2) ∧
                      New w
                        [Value.int IntKind.i64 0, Value.int IntKind.i64 0,
                          Value.int IntKind.i64 0]
                        57 fun p w' =>
                        Wr w' p [Value.int IntKind.i64 n, Value.int IntKind.i64 n_1, Value.int IntKind.i64 n_2]
                          fun w' =>
                          Call Tryd.prog 42
                            [Value.slice p0_l_a p0_l_n p0_l_c,
                              Value.func (Fn.func 43) #[] #[Value.pointer (some p)]]
                            w' fun e w' =>
                            ∃ n,
                              e = Ending.returned (Value.int IntKind.i64 n) ∧
                                (decide (n < (0 : Int)) = true →
                                    R
                                      (Ending.returned
                                        (Value.tuple
                                          #[Value.slice none 0 0, Value.int IntKind.i64 4]))
                                      w') ∧
                                  (decide (n < (0 : Int)) = false →
                                    ∃ n_3,
                                      World.cell? w' (Addr.add p 2) = some (Value.int IntKind.i64 n_3) ∧
                                        ((0 : Int) ≤ n ∧ n < (↑p0_l_n : Int)) ∧
                                          ∃ a,
                                            p0_l_a = some a ∧
                                              Wr w' (Addr.add (Addr.add a (Int.toNat n * 3)) 1)
                                                [Value.int IntKind.i64 n_3] fun w' =>
                                                B18_1
                                                  [(0, SV.v (Value.slice p0_l_a p0_l_n p0_l_c)),
                                                    (11, SV.v (Value.slice p11_t_a p11_t_n p11_t_c)),
                                                    (12, SV.v (Value.int IntKind.i64 p12_t)),
                                                    (13,
                                                      SV.v
                                                        (Value.int IntKind.i64
                                                          (IntKind.wrap IntKind.i64 (p13_t + (1 : Int)))))]
                                                  w')) ∧
  (decide (p13_t < p12_t) = false →
    R (Ending.returned (Value.tuple #[Value.slice p0_l_a p0_l_n p0_l_c, Value.int IntKind.i64 0])) w)) := by kernel_rfl
/-! davit/davitlaw39.given2 -/
def M19 : Mt := { N := 31, keep := [(0, [0]), (1, [0, 3]), (2, [0, 3, 4]), (3, [0, 3, 4, 8]), (4, [0, 3, 4]), (5, [0, 3, 4]), (6, [2])], ords := [(5, [0, 1, 2, 3, 4, 5, 6, 7, 8, 9, 10, 11, 12, 13, 14, 15, 16, 17, 18, 19])], bk := [(0, [3]), (1, [0, 3, 4])], cuts := [], lk := [(3, [0, 3, 4])] }
noncomputable def c19 : Code := bodyOf Tryd.f19
noncomputable def c19_0 : Code := c19.sr.sr.sr
noncomputable def c19_1 : Code := c19.sr.sr.sl.sr.sl.sl
def e19_1 (p0_l_a : Option Addr) (p0_l_n : Nat) (p0_l_c : Nat) (p3_out_a : Option Addr) (p3_out_n : Nat) (p3_out_c : Nat) (p4_i : Int) : Env := [(0, SV.v (Value.slice p0_l_a p0_l_n p0_l_c)), (3, SV.v (Value.slice p3_out_a p3_out_n p3_out_c)), (4, SV.v (Value.int IntKind.i64 p4_i))]
def k19_1 (R : Ending → World → Prop) : Cont := blockK 0 [3] (seqK (fun E w => cutB (findL M19.cuts (headReg c19_0)) Tryd.prog M19 c19_0 E w (retK Tryd.prog Tryd.f19.results.toList R) fun E => den Tryd.prog M19 c19_0 E w (retK Tryd.prog Tryd.f19.results.toList R)) (retK Tryd.prog Tryd.f19.results.toList R))
theorem b19 : Tryd.f19.body = some c19 := by kernel_rfl
theorem n19 : Tryd.f19.ntmps = M19.N := by kernel_rfl
set_option maxRecDepth 100000 in
theorem u19 {p0_l_a : Option Addr} {p0_l_n : Nat} {p0_l_c : Nat} {w : World} {R : Ending → World → Prop} (h : den Tryd.prog M19 c19 (argE 0 [(Value.slice p0_l_a p0_l_n p0_l_c)]) w (retK Tryd.prog Tryd.f19.results.toList R)) : Calls Tryd.prog 19 #[(Value.slice p0_l_a p0_l_n p0_l_c)] w R := calls_den okProg Tryd.func19 b19 n19 (Nat.le_of_ble_eq_true rfl) h
theorem t19 (p0_l_a : Option Addr) (p0_l_n : Nat) (p0_l_c : Nat) (w : World) (R : Ending → World → Prop) : den Tryd.prog M19 c19 (argE 0 [(Value.slice p0_l_a p0_l_n p0_l_c)]) w (retK Tryd.prog Tryd.f19.results.toList R) =
(Cut
  (WP Tryd.prog 31 (Code.loop c19_1) (e19_1 p0_l_a p0_l_n p0_l_c none 0 0 (0 : Int)) w
    (k19_1 R))) := by kernel_rfl
theorem t19_1 (p0_l_a : Option Addr) (p0_l_n : Nat) (p0_l_c : Nat) (p3_out_a : Option Addr) (p3_out_n : Nat) (p3_out_c : Nat) (p4_i : Int) (w : World) (B19_1 : Env → World → Prop) (R : Ending → World → Prop) : den Tryd.prog M19 c19_1 (e19_1 p0_l_a p0_l_n p0_l_c p3_out_a p3_out_n p3_out_c p4_i) w (loopK B19_1 (k19_1 R)) =
((decide (p4_i < (↑p0_l_n : Int)) = true →
    ∀ (w' : World),
      World.heap w' = World.heap w →
        World.os w' = World.os w →
          World.tape w' = World.tape w →
            World.output w' = World.output w →
              ((0 : Int) ≤ p4_i ∧ p4_i < (↑p0_l_n : Int)) ∧
                ∃ a,
                  p0_l_a = some a ∧
                    ∃ n,
                      World.cell? w' (Addr.add (Addr.add a (Int.toNat p4_i * 3)) 0) =
                          some (Value.int IntKind.i64 n) ∧
                        ((0 : Int) ≤ p4_i ∧ p4_i < (↑p0_l_n : Int)) ∧
                          ∃ a,
                            p0_l_a = some a ∧
                              ∃ n_1,
                                World.cell? w' (Addr.add (Addr.add a (Int.toNat p4_i * 3)) 1) =
                                    some (Value.int IntKind.i64 n_1) ∧
                                  ((0 : Int) ≤ p4_i ∧ p4_i < (↑p0_l_n : Int)) ∧
                                    ∃ a,
                                      p0_l_a = some a ∧
                                        ∃ n_2,
                                          World.cell? w'
                                                (Addr.add (Addr.add a (Int.toNat p4_i * 3)) 2) =
                                              some (Value.int IntKind.i64 n_2) ∧
                                            New w'
                                              [Value.int IntKind.i64 n, Value.int IntKind.i64 n_1,
                                                Value.int IntKind.i64 n_2]
                                              57 fun p w' =>
                                              ∃ p_1 n c w'_1,
                                                Sem.run Tryd.prog
                                                      (Builtin.append_ #[37, 37] 37
                                                        #[Value.slice p3_out_a p3_out_n p3_out_c,
                                                          Value.slice (some p) 1 1])
                                                      w' =
                                                    Result.ok (Value.slice p_1 n c) w'_1 ∧
                                                  B19_1
                                                    [(0, SV.v (Value.slice p0_l_a p0_l_n p0_l_c)),
                                                      (3, SV.v (Value.slice p_1 n c)),
                                                      (4,
                                                        SV.v
                                                          (Value.int IntKind.i64
                                                            (IntKind.wrap IntKind.i64 (p4_i + (1 : Int)))))]
                                                    w'_1) ∧
  (decide (p4_i < (↑p0_l_n : Int)) = false → R (Ending.returned (Value.slice p3_out_a p3_out_n p3_out_c)) w)) := by kernel_rfl
/-! davit/davitref39.Apply -/
def M20 : Mt := { N := 65, keep := [(0, [0, 1]), (1, [0, 1, 6]), (2, [1, 6]), (3, [1, 6, 7]), (4, [1, 6, 7, 16]), (5, [1, 6, 7]), (6, [1, 6, 7, 8]), (7, [1, 6, 7, 8, 9]), (8, [1, 6, 7, 8, 9, 22]), (9, [1, 6, 7, 8, 9]), (10, [1, 6, 7, 8, 9, 50]), (11, [1, 6, 7, 8, 9]), (12, [1, 6, 7, 8, 54]), (13, [4, 5]), (14, [1, 6, 7]), (15, [4, 5])], ords := [(10, [0, 1, 2, 3, 4, 5, 6, 7, 8, 9, 10, 11, 12, 13, 14, 15, 16, 17, 18, 19, 20, 21, 22, 23, 24, 25])], bk := [(0, [6]), (1, [1, 6, 7]), (2, [1, 6, 7, 8]), (3, [1, 6, 7, 8, 9])], cuts := [(12, [1, 6, 7, 8])], lk := [(4, [1, 6, 7]), (8, [1, 6, 7, 8, 9])] }
noncomputable def c20 : Code := bodyOf Tryd.f20
noncomputable def c20_0 : Code := c20.sr.sr.sr.sr
noncomputable def c20_1 : Code := c20.sr.sr.sr.sl.sr.sl.sl
noncomputable def c20_2 : Code := c20.sr.sr.sr.sl.sr.sl.sl.sr.sr
noncomputable def c20_3 : Code := c20.sr.sr.sr.sl.sr.sl.sl.sr.sl.sl.sr.sr
noncomputable def c20_4 : Code := c20.sr.sr.sr.sl.sr.sl.sl.sr.sl.sl.sr.sl.sr.sl.sl
def e20_1 (p1_moves_a : Option Addr) (p1_moves_n : Nat) (p1_moves_c : Nat) (p6_now_a : Option Addr) (p6_now_n : Nat) (p6_now_c : Nat) (p7_i : Int) : Env := [(1, SV.v (Value.slice p1_moves_a p1_moves_n p1_moves_c)), (6, SV.v (Value.slice p6_now_a p6_now_n p6_now_c)), (7, SV.v (Value.int IntKind.i64 p7_i))]
def e20_3 (p1_moves_a : Option Addr) (p1_moves_n : Nat) (p1_moves_c : Nat) (p6_now_a : Option Addr) (p6_now_n : Nat) (p6_now_c : Nat) (p7_i : Int) (p8_at : Int) : Env := [(1, SV.v (Value.slice p1_moves_a p1_moves_n p1_moves_c)), (6, SV.v (Value.slice p6_now_a p6_now_n p6_now_c)), (7, SV.v (Value.int IntKind.i64 p7_i)), (8, SV.v (Value.int IntKind.i64 p8_at))]
def e20_4 (p1_moves_a : Option Addr) (p1_moves_n : Nat) (p1_moves_c : Nat) (p6_now_a : Option Addr) (p6_now_n : Nat) (p6_now_c : Nat) (p7_i : Int) (p8_at : Int) (p9_k : Int) : Env := [(1, SV.v (Value.slice p1_moves_a p1_moves_n p1_moves_c)), (6, SV.v (Value.slice p6_now_a p6_now_n p6_now_c)), (7, SV.v (Value.int IntKind.i64 p7_i)), (8, SV.v (Value.int IntKind.i64 p8_at)), (9, SV.v (Value.int IntKind.i64 p9_k))]
def k20_1 (R : Ending → World → Prop) : Cont := blockK 0 [6] (seqK (fun E w => cutB (findL M20.cuts (headReg c20_0)) Tryd.prog M20 c20_0 E w (retK Tryd.prog Tryd.f20.results.toList R) fun E => den Tryd.prog M20 c20_0 E w (retK Tryd.prog Tryd.f20.results.toList R)) (retK Tryd.prog Tryd.f20.results.toList R))
def k20_3 (B20_1 : Env → World → Prop) (R : Ending → World → Prop) : Cont := blockK 1 [1, 6, 7] (seqK (fun E w => cutB (findL M20.cuts (headReg c20_2)) Tryd.prog M20 c20_2 E w (loopK B20_1 (blockK 0 [6] (seqK (fun E w => cutB (findL M20.cuts (headReg c20_0)) Tryd.prog M20 c20_0 E w (retK Tryd.prog Tryd.f20.results.toList R) fun E => den Tryd.prog M20 c20_0 E w (retK Tryd.prog Tryd.f20.results.toList R)) (retK Tryd.prog Tryd.f20.results.toList R)))) fun E => den Tryd.prog M20 c20_2 E w (loopK B20_1 (blockK 0 [6] (seqK (fun E w => cutB (findL M20.cuts (headReg c20_0)) Tryd.prog M20 c20_0 E w (retK Tryd.prog Tryd.f20.results.toList R) fun E => den Tryd.prog M20 c20_0 E w (retK Tryd.prog Tryd.f20.results.toList R)) (retK Tryd.prog Tryd.f20.results.toList R))))) (loopK B20_1 (blockK 0 [6] (seqK (fun E w => cutB (findL M20.cuts (headReg c20_0)) Tryd.prog M20 c20_0 E w (retK Tryd.prog Tryd.f20.results.toList R) fun E => den Tryd.prog M20 c20_0 E w (retK Tryd.prog Tryd.f20.results.toList R)) (retK Tryd.prog Tryd.f20.results.toList R)))))
def k20_4 (B20_1 : Env → World → Prop) (R : Ending → World → Prop) : Cont := blockK 2 [1, 6, 7, 8] (seqK (fun E w => cutB (findL M20.cuts (headReg c20_3)) Tryd.prog M20 c20_3 E w (blockK 1 [1, 6, 7] (seqK (fun E w => cutB (findL M20.cuts (headReg c20_2)) Tryd.prog M20 c20_2 E w (loopK B20_1 (blockK 0 [6] (seqK (fun E w => cutB (findL M20.cuts (headReg c20_0)) Tryd.prog M20 c20_0 E w (retK Tryd.prog Tryd.f20.results.toList R) fun E => den Tryd.prog M20 c20_0 E w (retK Tryd.prog Tryd.f20.results.toList R)) (retK Tryd.prog Tryd.f20.results.toList R)))) fun E => den Tryd.prog M20 c20_2 E w (loopK B20_1 (blockK 0 [6] (seqK (fun E w => cutB (findL M20.cuts (headReg c20_0)) Tryd.prog M20 c20_0 E w (retK Tryd.prog Tryd.f20.results.toList R) fun E => den Tryd.prog M20 c20_0 E w (retK Tryd.prog Tryd.f20.results.toList R)) (retK Tryd.prog Tryd.f20.results.toList R))))) (loopK B20_1 (blockK 0 [6] (seqK (fun E w => cutB (findL M20.cuts (headReg c20_0)) Tryd.prog M20 c20_0 E w (retK Tryd.prog Tryd.f20.results.toList R) fun E => den Tryd.prog M20 c20_0 E w (retK Tryd.prog Tryd.f20.results.toList R)) (retK Tryd.prog Tryd.f20.results.toList R)))))) fun E => den Tryd.prog M20 c20_3 E w (blockK 1 [1, 6, 7] (seqK (fun E w => cutB (findL M20.cuts (headReg c20_2)) Tryd.prog M20 c20_2 E w (loopK B20_1 (blockK 0 [6] (seqK (fun E w => cutB (findL M20.cuts (headReg c20_0)) Tryd.prog M20 c20_0 E w (retK Tryd.prog Tryd.f20.results.toList R) fun E => den Tryd.prog M20 c20_0 E w (retK Tryd.prog Tryd.f20.results.toList R)) (retK Tryd.prog Tryd.f20.results.toList R)))) fun E => den Tryd.prog M20 c20_2 E w (loopK B20_1 (blockK 0 [6] (seqK (fun E w => cutB (findL M20.cuts (headReg c20_0)) Tryd.prog M20 c20_0 E w (retK Tryd.prog Tryd.f20.results.toList R) fun E => den Tryd.prog M20 c20_0 E w (retK Tryd.prog Tryd.f20.results.toList R)) (retK Tryd.prog Tryd.f20.results.toList R))))) (loopK B20_1 (blockK 0 [6] (seqK (fun E w => cutB (findL M20.cuts (headReg c20_0)) Tryd.prog M20 c20_0 E w (retK Tryd.prog Tryd.f20.results.toList R) fun E => den Tryd.prog M20 c20_0 E w (retK Tryd.prog Tryd.f20.results.toList R)) (retK Tryd.prog Tryd.f20.results.toList R))))))) (blockK 1 [1, 6, 7] (seqK (fun E w => cutB (findL M20.cuts (headReg c20_2)) Tryd.prog M20 c20_2 E w (loopK B20_1 (blockK 0 [6] (seqK (fun E w => cutB (findL M20.cuts (headReg c20_0)) Tryd.prog M20 c20_0 E w (retK Tryd.prog Tryd.f20.results.toList R) fun E => den Tryd.prog M20 c20_0 E w (retK Tryd.prog Tryd.f20.results.toList R)) (retK Tryd.prog Tryd.f20.results.toList R)))) fun E => den Tryd.prog M20 c20_2 E w (loopK B20_1 (blockK 0 [6] (seqK (fun E w => cutB (findL M20.cuts (headReg c20_0)) Tryd.prog M20 c20_0 E w (retK Tryd.prog Tryd.f20.results.toList R) fun E => den Tryd.prog M20 c20_0 E w (retK Tryd.prog Tryd.f20.results.toList R)) (retK Tryd.prog Tryd.f20.results.toList R))))) (loopK B20_1 (blockK 0 [6] (seqK (fun E w => cutB (findL M20.cuts (headReg c20_0)) Tryd.prog M20 c20_0 E w (retK Tryd.prog Tryd.f20.results.toList R) fun E => den Tryd.prog M20 c20_0 E w (retK Tryd.prog Tryd.f20.results.toList R)) (retK Tryd.prog Tryd.f20.results.toList R)))))))
theorem b20 : Tryd.f20.body = some c20 := by kernel_rfl
theorem n20 : Tryd.f20.ntmps = M20.N := by kernel_rfl
set_option maxRecDepth 100000 in
theorem u20 {p0_l_a : Option Addr} {p0_l_n : Nat} {p0_l_c : Nat} {p1_moves_a : Option Addr} {p1_moves_n : Nat} {p1_moves_c : Nat} {w : World} {R : Ending → World → Prop} (h : den Tryd.prog M20 c20 (argE 0 [(Value.slice p0_l_a p0_l_n p0_l_c), (Value.slice p1_moves_a p1_moves_n p1_moves_c)]) w (retK Tryd.prog Tryd.f20.results.toList R)) : Calls Tryd.prog 20 #[(Value.slice p0_l_a p0_l_n p0_l_c), (Value.slice p1_moves_a p1_moves_n p1_moves_c)] w R := calls_den okProg Tryd.func20 b20 n20 (Nat.le_of_ble_eq_true rfl) h
theorem t20 (p0_l_a : Option Addr) (p0_l_n : Nat) (p0_l_c : Nat) (p1_moves_a : Option Addr) (p1_moves_n : Nat) (p1_moves_c : Nat) (w : World) (R : Ending → World → Prop) : den Tryd.prog M20 c20 (argE 0 [(Value.slice p0_l_a p0_l_n p0_l_c), (Value.slice p1_moves_a p1_moves_n p1_moves_c)]) w (retK Tryd.prog Tryd.f20.results.toList R) =
(∃ p n c w',
  Sem.run Tryd.prog
        (Builtin.append_ #[22, 22] 22
          #[Value.slice none 0 0, Value.slice p0_l_a p0_l_n p0_l_c])
        w =
      Result.ok (Value.slice p n c) w' ∧
    Cut
      (WP Tryd.prog 65 (Code.loop c20_1) (e20_1 p1_moves_a p1_moves_n p1_moves_c p n c (0 : Int)) w'
        (k20_1 R))) := by kernel_rfl
theorem t20_1 (p1_moves_a : Option Addr) (p1_moves_n : Nat) (p1_moves_c : Nat) (p6_now_a : Option Addr) (p6_now_n : Nat) (p6_now_c : Nat) (p7_i : Int) (w : World) (B20_1 : Env → World → Prop) (R : Ending → World → Prop) : den Tryd.prog M20 c20_1 (e20_1 p1_moves_a p1_moves_n p1_moves_c p6_now_a p6_now_n p6_now_c p7_i) w (loopK B20_1 (k20_1 R)) =
((decide (p7_i < (↑p1_moves_n : Int)) = true →
    Cut
      (WP Tryd.prog 65 (Code.loop c20_4)
        (e20_4 p1_moves_a p1_moves_n p1_moves_c p6_now_a p6_now_n p6_now_c p7_i (-1 : Int) (↑p6_now_n : Int)) w
        (k20_4 B20_1 R))) ∧
  (decide (p7_i < (↑p1_moves_n : Int)) = false →
    R (Ending.returned (Value.tuple #[Value.slice p6_now_a p6_now_n p6_now_c, Value.int IntKind.i64 0])) w)) := by kernel_rfl
theorem t20_3 (p1_moves_a : Option Addr) (p1_moves_n : Nat) (p1_moves_c : Nat) (p6_now_a : Option Addr) (p6_now_n : Nat) (p6_now_c : Nat) (p7_i : Int) (p8_at : Int) (w : World) (B20_1 : Env → World → Prop) (R : Ending → World → Prop) : den Tryd.prog M20 c20_3 (e20_3 p1_moves_a p1_moves_n p1_moves_c p6_now_a p6_now_n p6_now_c p7_i p8_at) w (k20_3 B20_1 R) =
((decide (p8_at < (0 : Int)) = true →
    R (Ending.returned (Value.tuple #[Value.slice none 0 0, Value.int IntKind.i64 4])) w) ∧
  (decide (p8_at < (0 : Int)) = false →
    ((0 : Int) ≤ p7_i ∧ p7_i < (↑p1_moves_n : Int)) ∧
      ∃ a,
        p1_moves_a = some a ∧
          ∃ n,
            World.cell? w (Addr.add (Addr.add a (Int.toNat p7_i * 3)) 2) =
                some (Value.int IntKind.i64 n) ∧
              ((0 : Int) ≤ p8_at ∧ p8_at < (↑p6_now_n : Int)) ∧
                ∃ a,
                  p6_now_a = some a ∧
                    Wr w (Addr.add (Addr.add a (Int.toNat p8_at * 3)) 1) [Value.int IntKind.i64 n]
                      fun w' =>
                      B20_1
                        [(1, SV.v (Value.slice p1_moves_a p1_moves_n p1_moves_c)),
                          (6, SV.v (Value.slice p6_now_a p6_now_n p6_now_c)),
                          (7, SV.v (Value.int IntKind.i64 (IntKind.wrap IntKind.i64 (p7_i + (1 : Int)))))]
                        w')) := by kernel_rfl
theorem t20_4 (p1_moves_a : Option Addr) (p1_moves_n : Nat) (p1_moves_c : Nat) (p6_now_a : Option Addr) (p6_now_n : Nat) (p6_now_c : Nat) (p7_i : Int) (p8_at : Int) (p9_k : Int) (w : World) (B20_1 : Env → World → Prop) (B20_4 : Env → World → Prop) (R : Ending → World → Prop) : den Tryd.prog M20 c20_4 (e20_4 p1_moves_a p1_moves_n p1_moves_c p6_now_a p6_now_n p6_now_c p7_i p8_at p9_k) w (loopK B20_4 (k20_4 B20_1 R)) =
((decide (p9_k > (0 : Int)) = true →
    ∀ (w' : World),
      World.heap w' = World.heap w →
        World.os w' = World.os w →
          World.tape w' = World.tape w →
            World.output w' = World.output w →
              ((0 : Int) ≤ IntKind.wrap IntKind.i64 (p9_k - (1 : Int)) ∧
                  IntKind.wrap IntKind.i64 (p9_k - (1 : Int)) < (↑p6_now_n : Int)) ∧
                ∃ a,
                  p6_now_a = some a ∧
                    ∃ n,
                      World.cell? w'
                            (Addr.add
                              (Addr.add a (Int.toNat (IntKind.wrap IntKind.i64 (p9_k - (1 : Int))) * 3))
                              0) =
                          some (Value.int IntKind.i64 n) ∧
                        ((0 : Int) ≤ p7_i ∧ p7_i < (↑p1_moves_n : Int)) ∧
                          ∃ a,
                            p1_moves_a = some a ∧
                              ∃ n_1,
                                World.cell? w' (Addr.add (Addr.add a (Int.toNat p7_i * 3)) 0) =
                                    some (Value.int IntKind.i64 n_1) ∧
                                  ((n == n_1) = true →
                                      ((0 : Int) ≤ IntKind.wrap IntKind.i64 (p9_k - (1 : Int)) ∧
                                          IntKind.wrap IntKind.i64 (p9_k - (1 : Int)) < (↑p6_now_n : Int)) ∧
                                        ∃ a,
                                          p6_now_a = some a ∧
                                            ∃ n,
                                              World.cell? w'
                                                    (Addr.add
                                                      (Addr.add a
                                                        (Int.toNat (IntKind.wrap IntKind.i64 (p9_k - (1 : Int))) *
                                                          3))
                                                      1) =
                                                  some (Value.int IntKind.i64 n) ∧
                                                ((0 : Int) ≤ p7_i ∧ p7_i < (↑p1_moves_n : Int)) ∧
                                                  ∃ a,
                                                    p1_moves_a = some a ∧
                                                      ∃ n_2,
                                                        World.cell? w'
                                                              (Addr.add (Addr.add a (Int.toNat p7_i * 3))
                                                                1) =
                                                            some (Value.int IntKind.i64 n_2) ∧
                                                          ((n == n_2) = true →
                                                              B20_4
                                                                [(1,
                                                                    SV.v
                                                                      (Value.slice p1_moves_a p1_moves_n
                                                                        p1_moves_c)),
                                                                  (6,
                                                                    SV.v (Value.slice p6_now_a p6_now_n p6_now_c)),
                                                                  (7, SV.v (Value.int IntKind.i64 p7_i)),
                                                                  (8,
                                                                    SV.v
                                                                      (Value.int IntKind.i64
                                                                        (IntKind.wrap IntKind.i64
                                                                          (p9_k - (1 : Int))))),
                                                                  (9,
                                                                    SV.v
                                                                      (Value.int IntKind.i64
                                                                        (IntKind.wrap IntKind.i64
                                                                          (p9_k - (1 : Int)))))]
                                                                w') ∧
                                                            ((n == n_2) = false →
                                                              B20_4
                                                                [(1,
                                                                    SV.v
                                                                      (Value.slice p1_moves_a p1_moves_n
                                                                        p1_moves_c)),
                                                                  (6,
                                                                    SV.v (Value.slice p6_now_a p6_now_n p6_now_c)),
                                                                  (7, SV.v (Value.int IntKind.i64 p7_i)),
                                                                  (8, SV.v (Value.int IntKind.i64 p8_at)),
                                                                  (9,
                                                                    SV.v
                                                                      (Value.int IntKind.i64
                                                                        (IntKind.wrap IntKind.i64
                                                                          (p9_k - (1 : Int)))))]
                                                                w')) ∧
                                    ((n == n_1) = false →
                                      B20_4
                                        [(1, SV.v (Value.slice p1_moves_a p1_moves_n p1_moves_c)),
                                          (6, SV.v (Value.slice p6_now_a p6_now_n p6_now_c)),
                                          (7, SV.v (Value.int IntKind.i64 p7_i)),
                                          (8, SV.v (Value.int IntKind.i64 p8_at)),
                                          (9,
                                            SV.v
                                              (Value.int IntKind.i64 (IntKind.wrap IntKind.i64 (p9_k - (1 : Int)))))]
                                        w')) ∧
  (decide (p9_k > (0 : Int)) = false →
    CutD Tryd.prog M20 c20_3 (e20_3 p1_moves_a p1_moves_n p1_moves_c p6_now_a p6_now_n p6_now_c p7_i p8_at) w
      (k20_3 B20_1 R))) := by kernel_rfl
/-! davit/davitref39.Moves -/
def M21 : Mt := { N := 26, keep := [(0, [0, 1]), (1, [0, 1, 10]), (2, [4]), (3, [0, 1, 5]), (4, [0, 1, 5, 14]), (5, [0, 1, 5]), (6, [0, 1, 5, 25]), (7, [4]), (8, [4])], ords := [(6, [0, 1, 2, 3, 4, 5, 6, 7, 8])], bk := [(0, []), (1, [0, 1, 5])], cuts := [], lk := [(4, [0, 1, 5])] }
noncomputable def c21 : Code := bodyOf Tryd.f21
noncomputable def c21_0 : Code := c21.sr.sr.sr
noncomputable def c21_1 : Code := c21.sr.sr.sl.sr.sl.sl
def e21_1 (p0_a_a : Option Addr) (p0_a_n : Nat) (p0_a_c : Nat) (p1_b_a : Option Addr) (p1_b_n : Nat) (p1_b_c : Nat) (p5_i : Int) : Env := [(0, SV.v (Value.slice p0_a_a p0_a_n p0_a_c)), (1, SV.v (Value.slice p1_b_a p1_b_n p1_b_c)), (5, SV.v (Value.int IntKind.i64 p5_i))]
def k21_1 (R : Ending → World → Prop) : Cont := blockK 0 [] (seqK (fun E w => cutB (findL M21.cuts (headReg c21_0)) Tryd.prog M21 c21_0 E w (retK Tryd.prog Tryd.f21.results.toList R) fun E => den Tryd.prog M21 c21_0 E w (retK Tryd.prog Tryd.f21.results.toList R)) (retK Tryd.prog Tryd.f21.results.toList R))
theorem b21 : Tryd.f21.body = some c21 := by kernel_rfl
theorem n21 : Tryd.f21.ntmps = M21.N := by kernel_rfl
set_option maxRecDepth 100000 in
theorem u21 {p0_a_a : Option Addr} {p0_a_n : Nat} {p0_a_c : Nat} {p1_b_a : Option Addr} {p1_b_n : Nat} {p1_b_c : Nat} {w : World} {R : Ending → World → Prop} (h : den Tryd.prog M21 c21 (argE 0 [(Value.slice p0_a_a p0_a_n p0_a_c), (Value.slice p1_b_a p1_b_n p1_b_c)]) w (retK Tryd.prog Tryd.f21.results.toList R)) : Calls Tryd.prog 21 #[(Value.slice p0_a_a p0_a_n p0_a_c), (Value.slice p1_b_a p1_b_n p1_b_c)] w R := calls_den okProg Tryd.func21 b21 n21 (Nat.le_of_ble_eq_true rfl) h
theorem t21 (p0_a_a : Option Addr) (p0_a_n : Nat) (p0_a_c : Nat) (p1_b_a : Option Addr) (p1_b_n : Nat) (p1_b_c : Nat) (w : World) (R : Ending → World → Prop) : den Tryd.prog M21 c21 (argE 0 [(Value.slice p0_a_a p0_a_n p0_a_c), (Value.slice p1_b_a p1_b_n p1_b_c)]) w (retK Tryd.prog Tryd.f21.results.toList R) =
((((↑p0_a_n : Int) != (↑p1_b_n : Int)) = true → R (Ending.returned (Value.bool false)) w) ∧
  (((↑p0_a_n : Int) != (↑p1_b_n : Int)) = false →
    Cut
      (WP Tryd.prog 26 (Code.loop c21_1) (e21_1 p0_a_a p0_a_n p0_a_c p1_b_a p1_b_n p1_b_c (0 : Int)) w
        (k21_1 R)))) := by kernel_rfl
theorem t21_1 (p0_a_a : Option Addr) (p0_a_n : Nat) (p0_a_c : Nat) (p1_b_a : Option Addr) (p1_b_n : Nat) (p1_b_c : Nat) (p5_i : Int) (w : World) (B21_1 : Env → World → Prop) (R : Ending → World → Prop) : den Tryd.prog M21 c21_1 (e21_1 p0_a_a p0_a_n p0_a_c p1_b_a p1_b_n p1_b_c p5_i) w (loopK B21_1 (k21_1 R)) =
((decide (p5_i < (↑p0_a_n : Int)) = true →
    ∀ (w' : World),
      World.heap w' = World.heap w →
        World.os w' = World.os w →
          World.tape w' = World.tape w →
            World.output w' = World.output w →
              ((0 : Int) ≤ p5_i ∧ p5_i < (↑p0_a_n : Int)) ∧
                ∃ a,
                  p0_a_a = some a ∧
                    ∃ n,
                      World.cell? w' (Addr.add (Addr.add a (Int.toNat p5_i * 3)) 0) =
                          some (Value.int IntKind.i64 n) ∧
                        ∃ n_1,
                          World.cell? w' (Addr.add (Addr.add a (Int.toNat p5_i * 3)) 1) =
                              some (Value.int IntKind.i64 n_1) ∧
                            ∃ n_2,
                              World.cell? w' (Addr.add (Addr.add a (Int.toNat p5_i * 3)) 2) =
                                  some (Value.int IntKind.i64 n_2) ∧
                                ((0 : Int) ≤ p5_i ∧ p5_i < (↑p1_b_n : Int)) ∧
                                  ∃ a,
                                    p1_b_a = some a ∧
                                      ∃ n_3,
                                        World.cell? w' (Addr.add (Addr.add a (Int.toNat p5_i * 3)) 0) =
                                            some (Value.int IntKind.i64 n_3) ∧
                                          ∃ n_4,
                                            World.cell? w'
                                                  (Addr.add (Addr.add a (Int.toNat p5_i * 3)) 1) =
                                                some (Value.int IntKind.i64 n_4) ∧
                                              ∃ n_5,
                                                World.cell? w'
                                                      (Addr.add (Addr.add a (Int.toNat p5_i * 3)) 2) =
                                                    some (Value.int IntKind.i64 n_5) ∧
                                                  ∃ b,
                                                    Sem.run Tryd.prog
                                                          (Op.equal 74
                                                            (Value.agg
                                                              #[Value.int IntKind.i64 n, Value.int IntKind.i64 n_1,
                                                                Value.int IntKind.i64 n_2])
                                                            (Value.agg
                                                              #[Value.int IntKind.i64 n_3, Value.int IntKind.i64 n_4,
                                                                Value.int IntKind.i64 n_5]))
                                                          w' =
                                                        Result.ok b w' ∧
                                                      false = false ∧
                                                        ((!b) = true → R (Ending.returned (Value.bool false)) w') ∧
                                                          ((!b) = false →
                                                            B21_1
                                                              [(0, SV.v (Value.slice p0_a_a p0_a_n p0_a_c)),
                                                                (1, SV.v (Value.slice p1_b_a p1_b_n p1_b_c)),
                                                                (5,
                                                                  SV.v
                                                                    (Value.int IntKind.i64
                                                                      (IntKind.wrap IntKind.i64 (p5_i + (1 : Int)))))]
                                                              w')) ∧
  (decide (p5_i < (↑p0_a_n : Int)) = false → R (Ending.returned (Value.bool true)) w)) := by kernel_rfl
/-! davit/davitlaw39.taken2 -/
def M22 : Mt := { N := 31, keep := [(0, [0]), (1, [0, 3]), (2, [0, 3, 4]), (3, [0, 3, 4, 8]), (4, [0, 3, 4]), (5, [0, 3, 4]), (6, [2])], ords := [(5, [0, 1, 2, 3, 4, 5, 6, 7, 8, 9, 10, 11, 12, 13, 14, 15, 16, 17, 18, 19])], bk := [(0, [3]), (1, [0, 3, 4])], cuts := [], lk := [(3, [0, 3, 4])] }
noncomputable def c22 : Code := bodyOf Tryd.f22
noncomputable def c22_0 : Code := c22.sr.sr.sr
noncomputable def c22_1 : Code := c22.sr.sr.sl.sr.sl.sl
def e22_1 (p0_l_a : Option Addr) (p0_l_n : Nat) (p0_l_c : Nat) (p3_out_a : Option Addr) (p3_out_n : Nat) (p3_out_c : Nat) (p4_i : Int) : Env := [(0, SV.v (Value.slice p0_l_a p0_l_n p0_l_c)), (3, SV.v (Value.slice p3_out_a p3_out_n p3_out_c)), (4, SV.v (Value.int IntKind.i64 p4_i))]
def k22_1 (R : Ending → World → Prop) : Cont := blockK 0 [3] (seqK (fun E w => cutB (findL M22.cuts (headReg c22_0)) Tryd.prog M22 c22_0 E w (retK Tryd.prog Tryd.f22.results.toList R) fun E => den Tryd.prog M22 c22_0 E w (retK Tryd.prog Tryd.f22.results.toList R)) (retK Tryd.prog Tryd.f22.results.toList R))
theorem b22 : Tryd.f22.body = some c22 := by kernel_rfl
theorem n22 : Tryd.f22.ntmps = M22.N := by kernel_rfl
set_option maxRecDepth 100000 in
theorem u22 {p0_l_a : Option Addr} {p0_l_n : Nat} {p0_l_c : Nat} {w : World} {R : Ending → World → Prop} (h : den Tryd.prog M22 c22 (argE 0 [(Value.slice p0_l_a p0_l_n p0_l_c)]) w (retK Tryd.prog Tryd.f22.results.toList R)) : Calls Tryd.prog 22 #[(Value.slice p0_l_a p0_l_n p0_l_c)] w R := calls_den okProg Tryd.func22 b22 n22 (Nat.le_of_ble_eq_true rfl) h
theorem t22 (p0_l_a : Option Addr) (p0_l_n : Nat) (p0_l_c : Nat) (w : World) (R : Ending → World → Prop) : den Tryd.prog M22 c22 (argE 0 [(Value.slice p0_l_a p0_l_n p0_l_c)]) w (retK Tryd.prog Tryd.f22.results.toList R) =
(Cut
  (WP Tryd.prog 31 (Code.loop c22_1) (e22_1 p0_l_a p0_l_n p0_l_c none 0 0 (0 : Int)) w
    (k22_1 R))) := by kernel_rfl
theorem t22_1 (p0_l_a : Option Addr) (p0_l_n : Nat) (p0_l_c : Nat) (p3_out_a : Option Addr) (p3_out_n : Nat) (p3_out_c : Nat) (p4_i : Int) (w : World) (B22_1 : Env → World → Prop) (R : Ending → World → Prop) : den Tryd.prog M22 c22_1 (e22_1 p0_l_a p0_l_n p0_l_c p3_out_a p3_out_n p3_out_c p4_i) w (loopK B22_1 (k22_1 R)) =
((decide (p4_i < (↑p0_l_n : Int)) = true →
    ∀ (w' : World),
      World.heap w' = World.heap w →
        World.os w' = World.os w →
          World.tape w' = World.tape w →
            World.output w' = World.output w →
              ((0 : Int) ≤ p4_i ∧ p4_i < (↑p0_l_n : Int)) ∧
                ∃ a,
                  p0_l_a = some a ∧
                    ∃ n,
                      World.cell? w' (Addr.add (Addr.add a (Int.toNat p4_i * 3)) 0) =
                          some (Value.int IntKind.i64 n) ∧
                        ((0 : Int) ≤ p4_i ∧ p4_i < (↑p0_l_n : Int)) ∧
                          ∃ a,
                            p0_l_a = some a ∧
                              ∃ n_1,
                                World.cell? w' (Addr.add (Addr.add a (Int.toNat p4_i * 3)) 1) =
                                    some (Value.int IntKind.i64 n_1) ∧
                                  ((0 : Int) ≤ p4_i ∧ p4_i < (↑p0_l_n : Int)) ∧
                                    ∃ a,
                                      p0_l_a = some a ∧
                                        ∃ n_2,
                                          World.cell? w'
                                                (Addr.add (Addr.add a (Int.toNat p4_i * 3)) 2) =
                                              some (Value.int IntKind.i64 n_2) ∧
                                            New w'
                                              [Value.int IntKind.i64 n, Value.int IntKind.i64 n_1,
                                                Value.int IntKind.i64 n_2]
                                              74 fun p w' =>
                                              ∃ p_1 n c w'_1,
                                                Sem.run Tryd.prog
                                                      (Builtin.append_ #[36, 36] 36
                                                        #[Value.slice p3_out_a p3_out_n p3_out_c,
                                                          Value.slice (some p) 1 1])
                                                      w' =
                                                    Result.ok (Value.slice p_1 n c) w'_1 ∧
                                                  B22_1
                                                    [(0, SV.v (Value.slice p0_l_a p0_l_n p0_l_c)),
                                                      (3, SV.v (Value.slice p_1 n c)),
                                                      (4,
                                                        SV.v
                                                          (Value.int IntKind.i64
                                                            (IntKind.wrap IntKind.i64 (p4_i + (1 : Int)))))]
                                                    w'_1) ∧
  (decide (p4_i < (↑p0_l_n : Int)) = false → R (Ending.returned (Value.slice p3_out_a p3_out_n p3_out_c)) w)) := by kernel_rfl
/-! davit/davitref39.Same -/
def M23 : Mt := { N := 26, keep := [(0, [0, 1]), (1, [0, 1, 10]), (2, [4]), (3, [0, 1, 5]), (4, [0, 1, 5, 14]), (5, [0, 1, 5]), (6, [0, 1, 5, 25]), (7, [4]), (8, [4])], ords := [(6, [0, 1, 2, 3, 4, 5, 6, 7, 8])], bk := [(0, []), (1, [0, 1, 5])], cuts := [], lk := [(4, [0, 1, 5])] }
noncomputable def c23 : Code := bodyOf Tryd.f23
noncomputable def c23_0 : Code := c23.sr.sr.sr
noncomputable def c23_1 : Code := c23.sr.sr.sl.sr.sl.sl
def e23_1 (p0_a_a : Option Addr) (p0_a_n : Nat) (p0_a_c : Nat) (p1_b_a : Option Addr) (p1_b_n : Nat) (p1_b_c : Nat) (p5_i : Int) : Env := [(0, SV.v (Value.slice p0_a_a p0_a_n p0_a_c)), (1, SV.v (Value.slice p1_b_a p1_b_n p1_b_c)), (5, SV.v (Value.int IntKind.i64 p5_i))]
def k23_1 (R : Ending → World → Prop) : Cont := blockK 0 [] (seqK (fun E w => cutB (findL M23.cuts (headReg c23_0)) Tryd.prog M23 c23_0 E w (retK Tryd.prog Tryd.f23.results.toList R) fun E => den Tryd.prog M23 c23_0 E w (retK Tryd.prog Tryd.f23.results.toList R)) (retK Tryd.prog Tryd.f23.results.toList R))
theorem b23 : Tryd.f23.body = some c23 := by kernel_rfl
theorem n23 : Tryd.f23.ntmps = M23.N := by kernel_rfl
set_option maxRecDepth 100000 in
theorem u23 {p0_a_a : Option Addr} {p0_a_n : Nat} {p0_a_c : Nat} {p1_b_a : Option Addr} {p1_b_n : Nat} {p1_b_c : Nat} {w : World} {R : Ending → World → Prop} (h : den Tryd.prog M23 c23 (argE 0 [(Value.slice p0_a_a p0_a_n p0_a_c), (Value.slice p1_b_a p1_b_n p1_b_c)]) w (retK Tryd.prog Tryd.f23.results.toList R)) : Calls Tryd.prog 23 #[(Value.slice p0_a_a p0_a_n p0_a_c), (Value.slice p1_b_a p1_b_n p1_b_c)] w R := calls_den okProg Tryd.func23 b23 n23 (Nat.le_of_ble_eq_true rfl) h
theorem t23 (p0_a_a : Option Addr) (p0_a_n : Nat) (p0_a_c : Nat) (p1_b_a : Option Addr) (p1_b_n : Nat) (p1_b_c : Nat) (w : World) (R : Ending → World → Prop) : den Tryd.prog M23 c23 (argE 0 [(Value.slice p0_a_a p0_a_n p0_a_c), (Value.slice p1_b_a p1_b_n p1_b_c)]) w (retK Tryd.prog Tryd.f23.results.toList R) =
((((↑p0_a_n : Int) != (↑p1_b_n : Int)) = true → R (Ending.returned (Value.bool false)) w) ∧
  (((↑p0_a_n : Int) != (↑p1_b_n : Int)) = false →
    Cut
      (WP Tryd.prog 26 (Code.loop c23_1) (e23_1 p0_a_a p0_a_n p0_a_c p1_b_a p1_b_n p1_b_c (0 : Int)) w
        (k23_1 R)))) := by kernel_rfl
theorem t23_1 (p0_a_a : Option Addr) (p0_a_n : Nat) (p0_a_c : Nat) (p1_b_a : Option Addr) (p1_b_n : Nat) (p1_b_c : Nat) (p5_i : Int) (w : World) (B23_1 : Env → World → Prop) (R : Ending → World → Prop) : den Tryd.prog M23 c23_1 (e23_1 p0_a_a p0_a_n p0_a_c p1_b_a p1_b_n p1_b_c p5_i) w (loopK B23_1 (k23_1 R)) =
((decide (p5_i < (↑p0_a_n : Int)) = true →
    ∀ (w' : World),
      World.heap w' = World.heap w →
        World.os w' = World.os w →
          World.tape w' = World.tape w →
            World.output w' = World.output w →
              ((0 : Int) ≤ p5_i ∧ p5_i < (↑p0_a_n : Int)) ∧
                ∃ a,
                  p0_a_a = some a ∧
                    ∃ n,
                      World.cell? w' (Addr.add (Addr.add a (Int.toNat p5_i * 3)) 0) =
                          some (Value.int IntKind.i64 n) ∧
                        ∃ n_1,
                          World.cell? w' (Addr.add (Addr.add a (Int.toNat p5_i * 3)) 1) =
                              some (Value.int IntKind.i64 n_1) ∧
                            ∃ n_2,
                              World.cell? w' (Addr.add (Addr.add a (Int.toNat p5_i * 3)) 2) =
                                  some (Value.int IntKind.u64 n_2) ∧
                                ((0 : Int) ≤ p5_i ∧ p5_i < (↑p1_b_n : Int)) ∧
                                  ∃ a,
                                    p1_b_a = some a ∧
                                      ∃ n_3,
                                        World.cell? w' (Addr.add (Addr.add a (Int.toNat p5_i * 3)) 0) =
                                            some (Value.int IntKind.i64 n_3) ∧
                                          ∃ n_4,
                                            World.cell? w'
                                                  (Addr.add (Addr.add a (Int.toNat p5_i * 3)) 1) =
                                                some (Value.int IntKind.i64 n_4) ∧
                                              ∃ n_5,
                                                World.cell? w'
                                                      (Addr.add (Addr.add a (Int.toNat p5_i * 3)) 2) =
                                                    some (Value.int IntKind.u64 n_5) ∧
                                                  ∃ b,
                                                    Sem.run Tryd.prog
                                                          (Op.equal 54
                                                            (Value.agg
                                                              #[Value.int IntKind.i64 n, Value.int IntKind.i64 n_1,
                                                                Value.int IntKind.u64 n_2])
                                                            (Value.agg
                                                              #[Value.int IntKind.i64 n_3, Value.int IntKind.i64 n_4,
                                                                Value.int IntKind.u64 n_5]))
                                                          w' =
                                                        Result.ok b w' ∧
                                                      false = false ∧
                                                        ((!b) = true → R (Ending.returned (Value.bool false)) w') ∧
                                                          ((!b) = false →
                                                            B23_1
                                                              [(0, SV.v (Value.slice p0_a_a p0_a_n p0_a_c)),
                                                                (1, SV.v (Value.slice p1_b_a p1_b_n p1_b_c)),
                                                                (5,
                                                                  SV.v
                                                                    (Value.int IntKind.i64
                                                                      (IntKind.wrap IntKind.i64 (p5_i + (1 : Int)))))]
                                                              w')) ∧
  (decide (p5_i < (↑p0_a_n : Int)) = false → R (Ending.returned (Value.bool true)) w)) := by kernel_rfl
/-! davit/davitlaw39.taken -/
def M24 : Mt := { N := 31, keep := [(0, [0]), (1, [0, 3]), (2, [0, 3, 4]), (3, [0, 3, 4, 8]), (4, [0, 3, 4]), (5, [0, 3, 4]), (6, [2])], ords := [(5, [0, 1, 2, 3, 4, 5, 6, 7, 8, 9, 10, 11, 12, 13, 14, 15, 16, 17, 18, 19])], bk := [(0, [3]), (1, [0, 3, 4])], cuts := [], lk := [(3, [0, 3, 4])] }
noncomputable def c24 : Code := bodyOf Tryd.f24
noncomputable def c24_0 : Code := c24.sr.sr.sr
noncomputable def c24_1 : Code := c24.sr.sr.sl.sr.sl.sl
def e24_1 (p0_l_a : Option Addr) (p0_l_n : Nat) (p0_l_c : Nat) (p3_out_a : Option Addr) (p3_out_n : Nat) (p3_out_c : Nat) (p4_i : Int) : Env := [(0, SV.v (Value.slice p0_l_a p0_l_n p0_l_c)), (3, SV.v (Value.slice p3_out_a p3_out_n p3_out_c)), (4, SV.v (Value.int IntKind.i64 p4_i))]
def k24_1 (R : Ending → World → Prop) : Cont := blockK 0 [3] (seqK (fun E w => cutB (findL M24.cuts (headReg c24_0)) Tryd.prog M24 c24_0 E w (retK Tryd.prog Tryd.f24.results.toList R) fun E => den Tryd.prog M24 c24_0 E w (retK Tryd.prog Tryd.f24.results.toList R)) (retK Tryd.prog Tryd.f24.results.toList R))
theorem b24 : Tryd.f24.body = some c24 := by kernel_rfl
theorem n24 : Tryd.f24.ntmps = M24.N := by kernel_rfl
set_option maxRecDepth 100000 in
theorem u24 {p0_l_a : Option Addr} {p0_l_n : Nat} {p0_l_c : Nat} {w : World} {R : Ending → World → Prop} (h : den Tryd.prog M24 c24 (argE 0 [(Value.slice p0_l_a p0_l_n p0_l_c)]) w (retK Tryd.prog Tryd.f24.results.toList R)) : Calls Tryd.prog 24 #[(Value.slice p0_l_a p0_l_n p0_l_c)] w R := calls_den okProg Tryd.func24 b24 n24 (Nat.le_of_ble_eq_true rfl) h
theorem t24 (p0_l_a : Option Addr) (p0_l_n : Nat) (p0_l_c : Nat) (w : World) (R : Ending → World → Prop) : den Tryd.prog M24 c24 (argE 0 [(Value.slice p0_l_a p0_l_n p0_l_c)]) w (retK Tryd.prog Tryd.f24.results.toList R) =
(Cut
  (WP Tryd.prog 31 (Code.loop c24_1) (e24_1 p0_l_a p0_l_n p0_l_c none 0 0 (0 : Int)) w
    (k24_1 R))) := by kernel_rfl
theorem t24_1 (p0_l_a : Option Addr) (p0_l_n : Nat) (p0_l_c : Nat) (p3_out_a : Option Addr) (p3_out_n : Nat) (p3_out_c : Nat) (p4_i : Int) (w : World) (B24_1 : Env → World → Prop) (R : Ending → World → Prop) : den Tryd.prog M24 c24_1 (e24_1 p0_l_a p0_l_n p0_l_c p3_out_a p3_out_n p3_out_c p4_i) w (loopK B24_1 (k24_1 R)) =
((decide (p4_i < (↑p0_l_n : Int)) = true →
    ∀ (w' : World),
      World.heap w' = World.heap w →
        World.os w' = World.os w →
          World.tape w' = World.tape w →
            World.output w' = World.output w →
              ((0 : Int) ≤ p4_i ∧ p4_i < (↑p0_l_n : Int)) ∧
                ∃ a,
                  p0_l_a = some a ∧
                    ∃ n,
                      World.cell? w' (Addr.add (Addr.add a (Int.toNat p4_i * 3)) 0) =
                          some (Value.int IntKind.i64 n) ∧
                        ((0 : Int) ≤ p4_i ∧ p4_i < (↑p0_l_n : Int)) ∧
                          ∃ a,
                            p0_l_a = some a ∧
                              ∃ n_1,
                                World.cell? w' (Addr.add (Addr.add a (Int.toNat p4_i * 3)) 1) =
                                    some (Value.int IntKind.i64 n_1) ∧
                                  ((0 : Int) ≤ p4_i ∧ p4_i < (↑p0_l_n : Int)) ∧
                                    ∃ a,
                                      p0_l_a = some a ∧
                                        ∃ n_2,
                                          World.cell? w'
                                                (Addr.add (Addr.add a (Int.toNat p4_i * 3)) 2) =
                                              some (Value.int IntKind.u64 n_2) ∧
                                            New w'
                                              [Value.int IntKind.i64 n, Value.int IntKind.i64 n_1,
                                                Value.int IntKind.u64 n_2]
                                              54 fun p w' =>
                                              ∃ p_1 n c w'_1,
                                                Sem.run Tryd.prog
                                                      (Builtin.append_ #[22, 22] 22
                                                        #[Value.slice p3_out_a p3_out_n p3_out_c,
                                                          Value.slice (some p) 1 1])
                                                      w' =
                                                    Result.ok (Value.slice p_1 n c) w'_1 ∧
                                                  B24_1
                                                    [(0, SV.v (Value.slice p0_l_a p0_l_n p0_l_c)),
                                                      (3, SV.v (Value.slice p_1 n c)),
                                                      (4,
                                                        SV.v
                                                          (Value.int IntKind.i64
                                                            (IntKind.wrap IntKind.i64 (p4_i + (1 : Int)))))]
                                                    w'_1) ∧
  (decide (p4_i < (↑p0_l_n : Int)) = false → R (Ending.returned (Value.slice p3_out_a p3_out_n p3_out_c)) w)) := by kernel_rfl
/-! (davit/mask.Mask).Has -/
def M25 : Mt := { N := 10, keep := [(0, [0, 1]), (1, [4])], ords := [], bk := [], cuts := [], lk := [] }
noncomputable def c25 : Code := bodyOf Tryd.f25
theorem b25 : Tryd.f25.body = some c25 := by kernel_rfl
theorem n25 : Tryd.f25.ntmps = M25.N := by kernel_rfl
set_option maxRecDepth 100000 in
theorem u25 {p0_m : Int} {p1_cpu : Int} {w : World} {R : Ending → World → Prop} (h : den Tryd.prog M25 c25 (argE 0 [(Value.int IntKind.u64 p0_m), (Value.int IntKind.i64 p1_cpu)]) w (retK Tryd.prog Tryd.f25.results.toList R)) : Calls Tryd.prog 25 #[(Value.int IntKind.u64 p0_m), (Value.int IntKind.i64 p1_cpu)] w R := calls_den okProg Tryd.func25 b25 n25 (Nat.le_of_ble_eq_true rfl) h
theorem t25 (p0_m : Int) (p1_cpu : Int) (w : World) (R : Ending → World → Prop) : den Tryd.prog M25 c25 (argE 0 [(Value.int IntKind.u64 p0_m), (Value.int IntKind.i64 p1_cpu)]) w (retK Tryd.prog Tryd.f25.results.toList R) =
(Call Tryd.prog 44 [Value.int IntKind.i64 p1_cpu] w fun e w' =>
  ∃ n,
    e = Ending.returned (Value.int IntKind.u64 n) ∧
      R (Ending.returned (Value.bool (bitsOp BinOp.and IntKind.u64 p0_m n != (0 : Int)))) w') := by kernel_rfl
/-! davit/spread.right -/
def M26 : Mt := { N := 9, keep := [(0, [0]), (1, [2])], ords := [], bk := [], cuts := [], lk := [] }
noncomputable def c26 : Code := bodyOf Tryd.f26
theorem b26 : Tryd.f26.body = some c26 := by kernel_rfl
theorem n26 : Tryd.f26.ntmps = M26.N := by kernel_rfl
set_option maxRecDepth 100000 in
theorem u26 {p0_cpus : Int} {w : World} {R : Ending → World → Prop} (h : den Tryd.prog M26 c26 (argE 0 [(Value.int IntKind.i64 p0_cpus)]) w (retK Tryd.prog Tryd.f26.results.toList R)) : Calls Tryd.prog 26 #[(Value.int IntKind.i64 p0_cpus)] w R := calls_den okProg Tryd.func26 b26 n26 (Nat.le_of_ble_eq_true rfl) h
theorem t26 (p0_cpus : Int) (w : World) (R : Ending → World → Prop) : den Tryd.prog M26 c26 (argE 0 [(Value.int IntKind.i64 p0_cpus)]) w (retK Tryd.prog Tryd.f26.results.toList R) =
((decide (p0_cpus ≥ (1 : Int)) = true → R (Ending.returned (Value.bool (decide (p0_cpus ≤ (64 : Int))))) w) ∧
  (decide (p0_cpus ≥ (1 : Int)) = false → R (Ending.returned (Value.bool false)) w)) := by kernel_rfl
/-! davit/davitref39.load -/
def M27 : Mt := { N := 23, keep := [(0, [0, 1]), (1, [0, 1, 5]), (2, [0, 1, 5, 6]), (3, [0, 1, 5, 6, 10]), (4, [0, 1, 5, 6]), (5, [0, 1, 5, 6, 19]), (6, [0, 1, 5, 6]), (7, [4])], ords := [], bk := [(0, [5]), (1, [0, 1, 5, 6])], cuts := [], lk := [(3, [0, 1, 5, 6])] }
noncomputable def c27 : Code := bodyOf Tryd.f27
noncomputable def c27_0 : Code := c27.sr.sr.sr
noncomputable def c27_1 : Code := c27.sr.sr.sl.sr.sl.sl
def e27_1 (p0_l_a : Option Addr) (p0_l_n : Nat) (p0_l_c : Nat) (p1_c : Int) (p5_n : Int) (p6_i : Int) : Env := [(0, SV.v (Value.slice p0_l_a p0_l_n p0_l_c)), (1, SV.v (Value.int IntKind.i64 p1_c)), (5, SV.v (Value.int IntKind.i64 p5_n)), (6, SV.v (Value.int IntKind.i64 p6_i))]
def k27_1 (R : Ending → World → Prop) : Cont := blockK 0 [5] (seqK (fun E w => cutB (findL M27.cuts (headReg c27_0)) Tryd.prog M27 c27_0 E w (retK Tryd.prog Tryd.f27.results.toList R) fun E => den Tryd.prog M27 c27_0 E w (retK Tryd.prog Tryd.f27.results.toList R)) (retK Tryd.prog Tryd.f27.results.toList R))
theorem b27 : Tryd.f27.body = some c27 := by kernel_rfl
theorem n27 : Tryd.f27.ntmps = M27.N := by kernel_rfl
set_option maxRecDepth 100000 in
theorem u27 {p0_l_a : Option Addr} {p0_l_n : Nat} {p0_l_c : Nat} {p1_c : Int} {w : World} {R : Ending → World → Prop} (h : den Tryd.prog M27 c27 (argE 0 [(Value.slice p0_l_a p0_l_n p0_l_c), (Value.int IntKind.i64 p1_c)]) w (retK Tryd.prog Tryd.f27.results.toList R)) : Calls Tryd.prog 27 #[(Value.slice p0_l_a p0_l_n p0_l_c), (Value.int IntKind.i64 p1_c)] w R := calls_den okProg Tryd.func27 b27 n27 (Nat.le_of_ble_eq_true rfl) h
theorem t27 (p0_l_a : Option Addr) (p0_l_n : Nat) (p0_l_c : Nat) (p1_c : Int) (w : World) (R : Ending → World → Prop) : den Tryd.prog M27 c27 (argE 0 [(Value.slice p0_l_a p0_l_n p0_l_c), (Value.int IntKind.i64 p1_c)]) w (retK Tryd.prog Tryd.f27.results.toList R) =
(Cut (WP Tryd.prog 23 (Code.loop c27_1) (e27_1 p0_l_a p0_l_n p0_l_c p1_c (0 : Int) (0 : Int)) w (k27_1 R))) := by kernel_rfl
theorem t27_1 (p0_l_a : Option Addr) (p0_l_n : Nat) (p0_l_c : Nat) (p1_c : Int) (p5_n : Int) (p6_i : Int) (w : World) (B27_1 : Env → World → Prop) (R : Ending → World → Prop) : den Tryd.prog M27 c27_1 (e27_1 p0_l_a p0_l_n p0_l_c p1_c p5_n p6_i) w (loopK B27_1 (k27_1 R)) =
((decide (p6_i < (↑p0_l_n : Int)) = true →
    ((0 : Int) ≤ p6_i ∧ p6_i < (↑p0_l_n : Int)) ∧
      ∃ a,
        p0_l_a = some a ∧
          ∃ n,
            World.cell? w (Addr.add (Addr.add a (Int.toNat p6_i * 3)) 1) =
                some (Value.int IntKind.i64 n) ∧
              ((n == p1_c) = true →
                  B27_1
                    [(0, SV.v (Value.slice p0_l_a p0_l_n p0_l_c)),
                      (1, SV.v (Value.int IntKind.i64 p1_c)),
                      (5, SV.v (Value.int IntKind.i64 (IntKind.wrap IntKind.i64 (p5_n + (1 : Int))))),
                      (6, SV.v (Value.int IntKind.i64 (IntKind.wrap IntKind.i64 (p6_i + (1 : Int)))))]
                    w) ∧
                ((n == p1_c) = false →
                  B27_1
                    [(0, SV.v (Value.slice p0_l_a p0_l_n p0_l_c)),
                      (1, SV.v (Value.int IntKind.i64 p1_c)), (5, SV.v (Value.int IntKind.i64 p5_n)),
                      (6, SV.v (Value.int IntKind.i64 (IntKind.wrap IntKind.i64 (p6_i + (1 : Int)))))]
                    w)) ∧
  (decide (p6_i < (↑p0_l_n : Int)) = false → R (Ending.returned (Value.int IntKind.i64 p5_n)) w)) := by kernel_rfl
/-! davit/spread.loadsOf -/
def M28 : Mt := { N := 24, keep := [(0, [0, 1]), (1, [0, 1, 5]), (2, [1, 5, 8, 9, 10]), (3, [1, 5, 8, 9, 10, 11]), (4, [1, 5, 6, 7, 8, 9, 10]), (5, [1, 5, 7, 8, 9, 10, 17]), (6, [1, 5, 8, 9, 10]), (7, [1, 5, 8, 9, 10]), (8, [4])], ords := [], bk := [(0, [5]), (1, [1, 5, 8, 9, 10])], cuts := [], lk := [(3, [1, 5, 8, 9, 10])] }
noncomputable def c28 : Code := bodyOf Tryd.f28
noncomputable def c28_0 : Code := c28.sr.sr.sr
noncomputable def c28_1 : Code := c28.sr.sr.sl.sr.sl.sl
def e28_1 (p1_of : Int) (p5_l_a : Option Addr) (p5_l_n : Nat) (p5_l_c : Nat) (p8_t_a : Option Addr) (p8_t_n : Nat) (p8_t_c : Nat) (p9_t : Int) (p10_t : Int) : Env := [(1, SV.v (Value.int IntKind.u64 p1_of)), (5, SV.v (Value.slice p5_l_a p5_l_n p5_l_c)), (8, SV.v (Value.slice p8_t_a p8_t_n p8_t_c)), (9, SV.v (Value.int IntKind.i64 p9_t)), (10, SV.v (Value.int IntKind.i64 p10_t))]
def k28_1 (R : Ending → World → Prop) : Cont := blockK 0 [5] (seqK (fun E w => cutB (findL M28.cuts (headReg c28_0)) Tryd.prog M28 c28_0 E w (retK Tryd.prog Tryd.f28.results.toList R) fun E => den Tryd.prog M28 c28_0 E w (retK Tryd.prog Tryd.f28.results.toList R)) (retK Tryd.prog Tryd.f28.results.toList R))
theorem b28 : Tryd.f28.body = some c28 := by kernel_rfl
theorem n28 : Tryd.f28.ntmps = M28.N := by kernel_rfl
set_option maxRecDepth 100000 in
theorem u28 {p0_loads_a : Option Addr} {p0_loads_n : Nat} {p0_loads_c : Nat} {p1_of : Int} {w : World} {R : Ending → World → Prop} (h : den Tryd.prog M28 c28 (argE 0 [(Value.slice p0_loads_a p0_loads_n p0_loads_c), (Value.int IntKind.u64 p1_of)]) w (retK Tryd.prog Tryd.f28.results.toList R)) : Calls Tryd.prog 28 #[(Value.slice p0_loads_a p0_loads_n p0_loads_c), (Value.int IntKind.u64 p1_of)] w R := calls_den okProg Tryd.func28 b28 n28 (Nat.le_of_ble_eq_true rfl) h
theorem t28 (p0_loads_a : Option Addr) (p0_loads_n : Nat) (p0_loads_c : Nat) (p1_of : Int) (w : World) (R : Ending → World → Prop) : den Tryd.prog M28 c28 (argE 0 [(Value.slice p0_loads_a p0_loads_n p0_loads_c), (Value.int IntKind.u64 p1_of)]) w (retK Tryd.prog Tryd.f28.results.toList R) =
(Cut
  (WP Tryd.prog 24 (Code.loop c28_1)
    (e28_1 p1_of none 0 0 p0_loads_a p0_loads_n p0_loads_c (↑p0_loads_n : Int) (0 : Int)) w
    (k28_1 R))) := by kernel_rfl
theorem t28_1 (p1_of : Int) (p5_l_a : Option Addr) (p5_l_n : Nat) (p5_l_c : Nat) (p8_t_a : Option Addr) (p8_t_n : Nat) (p8_t_c : Nat) (p9_t : Int) (p10_t : Int) (w : World) (B28_1 : Env → World → Prop) (R : Ending → World → Prop) : den Tryd.prog M28 c28_1 (e28_1 p1_of p5_l_a p5_l_n p5_l_c p8_t_a p8_t_n p8_t_c p9_t p10_t) w (loopK B28_1 (k28_1 R)) =
((decide (p10_t < p9_t) = true →
    ((0 : Int) ≤ p10_t ∧ p10_t < (↑p8_t_n : Int)) ∧
      ∃ a,
        p8_t_a = some a ∧
          ∃ n,
            World.cell? w (Addr.add a (Int.toNat p10_t * 1)) = some (Value.int IntKind.i64 n) ∧
              Call Tryd.prog 25 [Value.int IntKind.u64 p1_of, Value.int IntKind.i64 p10_t] w fun e w' =>
                ∃ b,
                  e = Ending.returned (Value.bool b) ∧
                    (b = true →
                        New w' [Value.int IntKind.i64 n] 3 fun p w' =>
                          ∃ p_1 n c w'_1,
                            Sem.run Tryd.prog
                                  (Builtin.append_ #[23, 23] 23
                                    #[Value.slice p5_l_a p5_l_n p5_l_c, Value.slice (some p) 1 1])
                                  w' =
                                Result.ok (Value.slice p_1 n c) w'_1 ∧
                              B28_1
                                [(1, SV.v (Value.int IntKind.u64 p1_of)),
                                  (5, SV.v (Value.slice p_1 n c)),
                                  (8, SV.v (Value.slice p8_t_a p8_t_n p8_t_c)),
                                  (9, SV.v (Value.int IntKind.i64 p9_t)),
                                  (10,
                                    SV.v (Value.int IntKind.i64 (IntKind.wrap IntKind.i64 (p10_t + (1 : Int)))))]
                                w'_1) ∧
                      (b = false →
                        B28_1
                          [(1, SV.v (Value.int IntKind.u64 p1_of)),
                            (5, SV.v (Value.slice p5_l_a p5_l_n p5_l_c)),
                            (8, SV.v (Value.slice p8_t_a p8_t_n p8_t_c)),
                            (9, SV.v (Value.int IntKind.i64 p9_t)),
                            (10, SV.v (Value.int IntKind.i64 (IntKind.wrap IntKind.i64 (p10_t + (1 : Int)))))]
                          w')) ∧
  (decide (p10_t < p9_t) = false → R (Ending.returned (Value.slice p5_l_a p5_l_n p5_l_c)) w)) := by kernel_rfl
/-! slices.Max[[]int,int] -/
def M29 : Mt := { N := 25, keep := [(0, [0]), (1, [0, 7]), (2, [0]), (3, [0, 3]), (4, [0, 3, 4]), (5, [0, 3, 4, 15]), (6, [0, 3, 4]), (7, [0, 3, 4]), (8, [2])], ords := [], bk := [(0, [3]), (1, [0, 3, 4])], cuts := [(3, [0])], lk := [(5, [0, 3, 4])] }
noncomputable def c29 : Code := bodyOf Tryd.f29
noncomputable def c29_0 : Code := c29.sr.sr
noncomputable def c29_1 : Code := c29.sr.sr.sr.sr
noncomputable def c29_2 : Code := c29.sr.sr.sr.sl.sr.sl.sl
def e29_0 (p0_x_a : Option Addr) (p0_x_n : Nat) (p0_x_c : Nat) : Env := [(0, SV.v (Value.slice p0_x_a p0_x_n p0_x_c))]
def e29_2 (p0_x_a : Option Addr) (p0_x_n : Nat) (p0_x_c : Nat) (p3_m : Int) (p4_i : Int) : Env := [(0, SV.v (Value.slice p0_x_a p0_x_n p0_x_c)), (3, SV.v (Value.int IntKind.i64 p3_m)), (4, SV.v (Value.int IntKind.i64 p4_i))]
def k29_0 (R : Ending → World → Prop) : Cont := retK Tryd.prog Tryd.f29.results.toList R
def k29_2 (R : Ending → World → Prop) : Cont := blockK 0 [3] (seqK (fun E w => cutB (findL M29.cuts (headReg c29_1)) Tryd.prog M29 c29_1 E w (retK Tryd.prog Tryd.f29.results.toList R) fun E => den Tryd.prog M29 c29_1 E w (retK Tryd.prog Tryd.f29.results.toList R)) (retK Tryd.prog Tryd.f29.results.toList R))
theorem b29 : Tryd.f29.body = some c29 := by kernel_rfl
theorem n29 : Tryd.f29.ntmps = M29.N := by kernel_rfl
set_option maxRecDepth 100000 in
theorem u29 {p0_x_a : Option Addr} {p0_x_n : Nat} {p0_x_c : Nat} {w : World} {R : Ending → World → Prop} (h : den Tryd.prog M29 c29 (argE 0 [(Value.slice p0_x_a p0_x_n p0_x_c)]) w (retK Tryd.prog Tryd.f29.results.toList R)) : Calls Tryd.prog 29 #[(Value.slice p0_x_a p0_x_n p0_x_c)] w R := calls_den okProg Tryd.func29 b29 n29 (Nat.le_of_ble_eq_true rfl) h
theorem t29 (p0_x_a : Option Addr) (p0_x_n : Nat) (p0_x_c : Nat) (w : World) (R : Ending → World → Prop) : den Tryd.prog M29 c29 (argE 0 [(Value.slice p0_x_a p0_x_n p0_x_c)]) w (retK Tryd.prog Tryd.f29.results.toList R) =
((decide ((↑p0_x_n : Int) < (1 : Int)) = true → False) ∧
  (decide ((↑p0_x_n : Int) < (1 : Int)) = false →
    CutD Tryd.prog M29 c29_0 (e29_0 p0_x_a p0_x_n p0_x_c) w (k29_0 R))) := by kernel_rfl
theorem t29_0 (p0_x_a : Option Addr) (p0_x_n : Nat) (p0_x_c : Nat) (w : World) (R : Ending → World → Prop) : den Tryd.prog M29 c29_0 (e29_0 p0_x_a p0_x_n p0_x_c) w (k29_0 R) =
(((0 : Int) ≤ (0 : Int) ∧ (0 : Int) < (↑p0_x_n : Int)) ∧
  ∃ a,
    p0_x_a = some a ∧
      ∃ n,
        World.cell? w (Addr.add a 0) = some (Value.int IntKind.i64 n) ∧
          Cut (WP Tryd.prog 25 (Code.loop c29_2) (e29_2 p0_x_a p0_x_n p0_x_c n (1 : Int)) w (k29_2 R))) := by kernel_rfl
theorem t29_2 (p0_x_a : Option Addr) (p0_x_n : Nat) (p0_x_c : Nat) (p3_m : Int) (p4_i : Int) (w : World) (B29_2 : Env → World → Prop) (R : Ending → World → Prop) : den Tryd.prog M29 c29_2 (e29_2 p0_x_a p0_x_n p0_x_c p3_m p4_i) w (loopK B29_2 (k29_2 R)) =
((decide (p4_i < (↑p0_x_n : Int)) = true →
    ((0 : Int) ≤ p4_i ∧ p4_i < (↑p0_x_n : Int)) ∧
      ∃ a,
        p0_x_a = some a ∧
          ∃ n,
            World.cell? w (Addr.add a (Int.toNat p4_i * 1)) = some (Value.int IntKind.i64 n) ∧
              ∃ n_1 w',
                Sem.run Tryd.prog
                      (Builtin.max_ #[3, 3] 3
                        #[Value.int IntKind.i64 p3_m, Value.int IntKind.i64 n])
                      w =
                    Result.ok (Value.int IntKind.i64 n_1) w' ∧
                  B29_2
                    [(0, SV.v (Value.slice p0_x_a p0_x_n p0_x_c)),
                      (3, SV.v (Value.int IntKind.i64 n_1)),
                      (4, SV.v (Value.int IntKind.i64 (IntKind.wrap IntKind.i64 (p4_i + (1 : Int)))))]
                    w') ∧
  (decide (p4_i < (↑p0_x_n : Int)) = false → R (Ending.returned (Value.int IntKind.i64 p3_m)) w)) := by kernel_rfl
/-! slices.Min[[]int,int] -/
def M30 : Mt := { N := 25, keep := [(0, [0]), (1, [0, 7]), (2, [0]), (3, [0, 3]), (4, [0, 3, 4]), (5, [0, 3, 4, 15]), (6, [0, 3, 4]), (7, [0, 3, 4]), (8, [2])], ords := [], bk := [(0, [3]), (1, [0, 3, 4])], cuts := [(3, [0])], lk := [(5, [0, 3, 4])] }
noncomputable def c30 : Code := bodyOf Tryd.f30
noncomputable def c30_0 : Code := c30.sr.sr
noncomputable def c30_1 : Code := c30.sr.sr.sr.sr
noncomputable def c30_2 : Code := c30.sr.sr.sr.sl.sr.sl.sl
def e30_0 (p0_x_a : Option Addr) (p0_x_n : Nat) (p0_x_c : Nat) : Env := [(0, SV.v (Value.slice p0_x_a p0_x_n p0_x_c))]
def e30_2 (p0_x_a : Option Addr) (p0_x_n : Nat) (p0_x_c : Nat) (p3_m : Int) (p4_i : Int) : Env := [(0, SV.v (Value.slice p0_x_a p0_x_n p0_x_c)), (3, SV.v (Value.int IntKind.i64 p3_m)), (4, SV.v (Value.int IntKind.i64 p4_i))]
def k30_0 (R : Ending → World → Prop) : Cont := retK Tryd.prog Tryd.f30.results.toList R
def k30_2 (R : Ending → World → Prop) : Cont := blockK 0 [3] (seqK (fun E w => cutB (findL M30.cuts (headReg c30_1)) Tryd.prog M30 c30_1 E w (retK Tryd.prog Tryd.f30.results.toList R) fun E => den Tryd.prog M30 c30_1 E w (retK Tryd.prog Tryd.f30.results.toList R)) (retK Tryd.prog Tryd.f30.results.toList R))
theorem b30 : Tryd.f30.body = some c30 := by kernel_rfl
theorem n30 : Tryd.f30.ntmps = M30.N := by kernel_rfl
set_option maxRecDepth 100000 in
theorem u30 {p0_x_a : Option Addr} {p0_x_n : Nat} {p0_x_c : Nat} {w : World} {R : Ending → World → Prop} (h : den Tryd.prog M30 c30 (argE 0 [(Value.slice p0_x_a p0_x_n p0_x_c)]) w (retK Tryd.prog Tryd.f30.results.toList R)) : Calls Tryd.prog 30 #[(Value.slice p0_x_a p0_x_n p0_x_c)] w R := calls_den okProg Tryd.func30 b30 n30 (Nat.le_of_ble_eq_true rfl) h
theorem t30 (p0_x_a : Option Addr) (p0_x_n : Nat) (p0_x_c : Nat) (w : World) (R : Ending → World → Prop) : den Tryd.prog M30 c30 (argE 0 [(Value.slice p0_x_a p0_x_n p0_x_c)]) w (retK Tryd.prog Tryd.f30.results.toList R) =
((decide ((↑p0_x_n : Int) < (1 : Int)) = true → False) ∧
  (decide ((↑p0_x_n : Int) < (1 : Int)) = false →
    CutD Tryd.prog M30 c30_0 (e30_0 p0_x_a p0_x_n p0_x_c) w (k30_0 R))) := by kernel_rfl
theorem t30_0 (p0_x_a : Option Addr) (p0_x_n : Nat) (p0_x_c : Nat) (w : World) (R : Ending → World → Prop) : den Tryd.prog M30 c30_0 (e30_0 p0_x_a p0_x_n p0_x_c) w (k30_0 R) =
(((0 : Int) ≤ (0 : Int) ∧ (0 : Int) < (↑p0_x_n : Int)) ∧
  ∃ a,
    p0_x_a = some a ∧
      ∃ n,
        World.cell? w (Addr.add a 0) = some (Value.int IntKind.i64 n) ∧
          Cut (WP Tryd.prog 25 (Code.loop c30_2) (e30_2 p0_x_a p0_x_n p0_x_c n (1 : Int)) w (k30_2 R))) := by kernel_rfl
theorem t30_2 (p0_x_a : Option Addr) (p0_x_n : Nat) (p0_x_c : Nat) (p3_m : Int) (p4_i : Int) (w : World) (B30_2 : Env → World → Prop) (R : Ending → World → Prop) : den Tryd.prog M30 c30_2 (e30_2 p0_x_a p0_x_n p0_x_c p3_m p4_i) w (loopK B30_2 (k30_2 R)) =
((decide (p4_i < (↑p0_x_n : Int)) = true →
    ((0 : Int) ≤ p4_i ∧ p4_i < (↑p0_x_n : Int)) ∧
      ∃ a,
        p0_x_a = some a ∧
          ∃ n,
            World.cell? w (Addr.add a (Int.toNat p4_i * 1)) = some (Value.int IntKind.i64 n) ∧
              ∃ n_1 w',
                Sem.run Tryd.prog
                      (Builtin.min_ #[3, 3] 3
                        #[Value.int IntKind.i64 p3_m, Value.int IntKind.i64 n])
                      w =
                    Result.ok (Value.int IntKind.i64 n_1) w' ∧
                  B30_2
                    [(0, SV.v (Value.slice p0_x_a p0_x_n p0_x_c)),
                      (3, SV.v (Value.int IntKind.i64 n_1)),
                      (4, SV.v (Value.int IntKind.i64 (IntKind.wrap IntKind.i64 (p4_i + (1 : Int)))))]
                    w') ∧
  (decide (p4_i < (↑p0_x_n : Int)) = false → R (Ending.returned (Value.int IntKind.i64 p3_m)) w)) := by kernel_rfl
/-! davit/davitref01.Has -/
def M31 : Mt := { N := 17, keep := [(0, [0, 1]), (1, [0, 1, 10]), (2, [4]), (3, [4])], ords := [], bk := [], cuts := [], lk := [] }
noncomputable def c31 : Code := bodyOf Tryd.f31
theorem b31 : Tryd.f31.body = some c31 := by kernel_rfl
theorem n31 : Tryd.f31.ntmps = M31.N := by kernel_rfl
set_option maxRecDepth 100000 in
theorem u31 {p0_m : Int} {p1_cpu : Int} {w : World} {R : Ending → World → Prop} (h : den Tryd.prog M31 c31 (argE 0 [(Value.int IntKind.u64 p0_m), (Value.int IntKind.i64 p1_cpu)]) w (retK Tryd.prog Tryd.f31.results.toList R)) : Calls Tryd.prog 31 #[(Value.int IntKind.u64 p0_m), (Value.int IntKind.i64 p1_cpu)] w R := calls_den okProg Tryd.func31 b31 n31 (Nat.le_of_ble_eq_true rfl) h
theorem t31 (p0_m : Int) (p1_cpu : Int) (w : World) (R : Ending → World → Prop) : den Tryd.prog M31 c31 (argE 0 [(Value.int IntKind.u64 p0_m), (Value.int IntKind.i64 p1_cpu)]) w (retK Tryd.prog Tryd.f31.results.toList R) =
((decide (p1_cpu < (0 : Int)) = false →
    (decide (p1_cpu > (63 : Int)) = true → R (Ending.returned (Value.bool false)) w) ∧
      (decide (p1_cpu > (63 : Int)) = false →
        (0 : Int) ≤ IntKind.wrap IntKind.u64 p1_cpu ∧
          (2 : Int) ≠ (0 : Int) ∧
            R
              (Ending.returned
                (Value.bool
                  (Int.tmod (shrOp IntKind.u64 p0_m (IntKind.wrap IntKind.u64 p1_cpu)) (2 : Int) == (1 : Int))))
              w)) ∧
  (decide (p1_cpu < (0 : Int)) = true → R (Ending.returned (Value.bool false)) w)) := by kernel_rfl
/-! davit/spread.may -/
def M32 : Mt := { N := 51, keep := [(0, [0, 1, 2]), (1, [1, 2, 10]), (2, [6]), (3, [1, 2, 25]), (4, [6]), (5, [1, 2, 7]), (6, [1, 7, 30, 31, 32]), (7, [1, 7, 30, 31, 32, 33]), (8, [1, 7, 9, 30, 31, 32]), (9, [1, 7, 9, 30, 31, 32, 46]), (10, [6]), (11, [1, 7, 30, 31, 32]), (12, [1, 7, 30, 31, 32]), (13, [6])], ords := [], bk := [(0, [1, 2]), (1, []), (2, [1, 7, 30, 31, 32])], cuts := [], lk := [(7, [1, 7, 30, 31, 32])] }
noncomputable def c32 : Code := bodyOf Tryd.f32
noncomputable def c32_0 : Code := c32.sr.sr.sr.sr
noncomputable def c32_1 : Code := c32.sr.sr.sr.sl.sr.sl.sl
def e32_1 (p1_active : Int) (p7_seen : Option Nat) (p30_t_a : Option Addr) (p30_t_n : Nat) (p30_t_c : Nat) (p31_t : Int) (p32_t : Int) : Env := [(1, SV.v (Value.int IntKind.u64 p1_active)), (7, SV.v (Value.map p7_seen)), (30, SV.v (Value.slice p30_t_a p30_t_n p30_t_c)), (31, SV.v (Value.int IntKind.i64 p31_t)), (32, SV.v (Value.int IntKind.i64 p32_t))]
def k32_1 (R : Ending → World → Prop) : Cont := blockK 1 [] (seqK (fun E w => cutB (findL M32.cuts (headReg c32_0)) Tryd.prog M32 c32_0 E w (retK Tryd.prog Tryd.f32.results.toList R) fun E => den Tryd.prog M32 c32_0 E w (retK Tryd.prog Tryd.f32.results.toList R)) (retK Tryd.prog Tryd.f32.results.toList R))
theorem b32 : Tryd.f32.body = some c32 := by kernel_rfl
theorem n32 : Tryd.f32.ntmps = M32.N := by kernel_rfl
set_option maxRecDepth 100000 in
theorem u32 {p0_cpus : Int} {p1_active : Int} {p2_l_a : Option Addr} {p2_l_n : Nat} {p2_l_c : Nat} {w : World} {R : Ending → World → Prop} (h : den Tryd.prog M32 c32 (argE 0 [(Value.int IntKind.i64 p0_cpus), (Value.int IntKind.u64 p1_active), (Value.slice p2_l_a p2_l_n p2_l_c)]) w (retK Tryd.prog Tryd.f32.results.toList R)) : Calls Tryd.prog 32 #[(Value.int IntKind.i64 p0_cpus), (Value.int IntKind.u64 p1_active), (Value.slice p2_l_a p2_l_n p2_l_c)] w R := calls_den okProg Tryd.func32 b32 n32 (Nat.le_of_ble_eq_true rfl) h
theorem t32 (p0_cpus : Int) (p1_active : Int) (p2_l_a : Option Addr) (p2_l_n : Nat) (p2_l_c : Nat) (w : World) (R : Ending → World → Prop) : den Tryd.prog M32 c32 (argE 0 [(Value.int IntKind.i64 p0_cpus), (Value.int IntKind.u64 p1_active), (Value.slice p2_l_a p2_l_n p2_l_c)]) w (retK Tryd.prog Tryd.f32.results.toList R) =
(Call Tryd.prog 26 [Value.int IntKind.i64 p0_cpus] w fun e w' =>
  ∃ b,
    e = Ending.returned (Value.bool b) ∧
      ((!b) = false →
          ((p1_active == (0 : Int)) = false →
              Call Tryd.prog 46 [Value.int IntKind.i64 p0_cpus] w' fun e w' =>
                ∃ n,
                  e = Ending.returned (Value.int IntKind.u64 n) ∧
                    Call Tryd.prog 45 [Value.int IntKind.u64 p1_active, Value.int IntKind.u64 n] w' fun e w' =>
                      ∃ b,
                        e = Ending.returned (Value.bool b) ∧
                          ((!b) = true → R (Ending.returned (Value.int IntKind.i64 2)) w') ∧
                            ((!b) = false →
                              (decide ((↑p2_l_n : Int) > (64 : Int)) = true →
                                  R (Ending.returned (Value.int IntKind.i64 15)) w') ∧
                                (decide ((↑p2_l_n : Int) > (64 : Int)) = false →
                                  NewMap w' fun r w' =>
                                    Cut
                                      (WP Tryd.prog 51 (Code.loop c32_1)
                                        (e32_1 p1_active (some r) p2_l_a p2_l_n p2_l_c (↑p2_l_n : Int) (0 : Int))
                                        w' (k32_1 R))))) ∧
            ((p1_active == (0 : Int)) = true → R (Ending.returned (Value.int IntKind.i64 2)) w')) ∧
        ((!b) = true → R (Ending.returned (Value.int IntKind.i64 2)) w')) := by kernel_rfl
theorem t32_1 (p1_active : Int) (p7_seen : Option Nat) (p30_t_a : Option Addr) (p30_t_n : Nat) (p30_t_c : Nat) (p31_t : Int) (p32_t : Int) (w : World) (B32_1 : Env → World → Prop) (R : Ending → World → Prop) : den Tryd.prog M32 c32_1 (e32_1 p1_active p7_seen p30_t_a p30_t_n p30_t_c p31_t p32_t) w (loopK B32_1 (k32_1 R)) =
((decide (p32_t < p31_t) = true →
    ((0 : Int) ≤ p32_t ∧ p32_t < (↑p30_t_n : Int)) ∧
      ∃ a,
        p30_t_a = some a ∧
          ∃ n,
            World.cell? w (Addr.add (Addr.add a (Int.toNat p32_t * 3)) 0) =
                some (Value.int IntKind.i64 n) ∧
              ∃ n_1,
                World.cell? w (Addr.add (Addr.add a (Int.toNat p32_t * 3)) 1) =
                    some (Value.int IntKind.i64 n_1) ∧
                  ∃ n_2,
                    World.cell? w (Addr.add (Addr.add a (Int.toNat p32_t * 3)) 2) =
                        some (Value.int IntKind.u64 n_2) ∧
                      New w
                        [Value.int IntKind.i64 0, Value.int IntKind.i64 0,
                          Value.int IntKind.u64 0]
                        59 fun p w' =>
                        Wr w' p [Value.int IntKind.i64 n, Value.int IntKind.i64 n_1, Value.int IntKind.u64 n_2]
                          fun w' =>
                          ∃ n,
                            World.cell? w' (Addr.add p 0) = some (Value.int IntKind.i64 n) ∧
                              ∃ b,
                                Sem.run Tryd.prog
                                      (Instr.lookup 80 (Value.map p7_seen) (Value.int IntKind.i64 n) false)
                                      w' =
                                    Result.ok (Value.bool b) w' ∧
                                  (b = false →
                                      ∃ n,
                                        World.cell? w' (Addr.add p 1) = some (Value.int IntKind.i64 n) ∧
                                          Call Tryd.prog 25
                                            [Value.int IntKind.u64 p1_active, Value.int IntKind.i64 n] w' fun e w' =>
                                            ∃ b,
                                              e = Ending.returned (Value.bool b) ∧
                                                ((!b) = true →
                                                    R (Ending.returned (Value.int IntKind.i64 2)) w') ∧
                                                  ((!b) = false →
                                                    ∃ n,
                                                      World.cell? w' (Addr.add p 0) =
                                                          some (Value.int IntKind.i64 n) ∧
                                                        ∃ w'_1,
                                                          Sem.run Tryd.prog
                                                                (Instr.mapUpdate 80 (Value.map p7_seen)
                                                                  (Value.int IntKind.i64 n) (Value.bool true))
                                                                w' =
                                                              Result.ok () w'_1 ∧
                                                            B32_1
                                                              [(1, SV.v (Value.int IntKind.u64 p1_active)),
                                                                (7, SV.v (Value.map p7_seen)),
                                                                (30,
                                                                  SV.v (Value.slice p30_t_a p30_t_n p30_t_c)),
                                                                (31, SV.v (Value.int IntKind.i64 p31_t)),
                                                                (32,
                                                                  SV.v
                                                                    (Value.int IntKind.i64
                                                                      (IntKind.wrap IntKind.i64 (p32_t + (1 : Int)))))]
                                                              w'_1)) ∧
                                    (b = true → R (Ending.returned (Value.int IntKind.i64 2)) w')) ∧
  (decide (p32_t < p31_t) = false → R (Ending.returned (Value.int IntKind.i64 0)) w)) := by kernel_rfl
/-! slices.Clone[[]davit/spread.Item,davit/spread.Item] -/
def M33 : Mt := { N := 8, keep := [(0, [0]), (1, [0, 4]), (2, [2]), (3, [2])], ords := [], bk := [], cuts := [], lk := [] }
noncomputable def c33 : Code := bodyOf Tryd.f33
theorem b33 : Tryd.f33.body = some c33 := by kernel_rfl
theorem n33 : Tryd.f33.ntmps = M33.N := by kernel_rfl
set_option maxRecDepth 100000 in
theorem u33 {p0_s_a : Option Addr} {p0_s_n : Nat} {p0_s_c : Nat} {w : World} {R : Ending → World → Prop} (h : den Tryd.prog M33 c33 (argE 0 [(Value.slice p0_s_a p0_s_n p0_s_c)]) w (retK Tryd.prog Tryd.f33.results.toList R)) : Calls Tryd.prog 33 #[(Value.slice p0_s_a p0_s_n p0_s_c)] w R := calls_den okProg Tryd.func33 b33 n33 (Nat.le_of_ble_eq_true rfl) h
theorem t33 (p0_s_a : Option Addr) (p0_s_n : Nat) (p0_s_c : Nat) (w : World) (R : Ending → World → Prop) : den Tryd.prog M33 c33 (argE 0 [(Value.slice p0_s_a p0_s_n p0_s_c)]) w (retK Tryd.prog Tryd.f33.results.toList R) =
((Option.isNone p0_s_a = true → R (Ending.returned (Value.slice none 0 0)) w) ∧
  (Option.isNone p0_s_a = false →
    New w [] 59 fun p w' =>
      ∃ p_1 n c w'_1,
        Sem.run Tryd.prog
              (Builtin.append_ #[28, 28] 28
                #[Value.slice (some p) 0 0, Value.slice p0_s_a p0_s_n p0_s_c])
              w' =
            Result.ok (Value.slice p_1 n c) w'_1 ∧
          R (Ending.returned (Value.slice p_1 n c)) w'_1)) := by kernel_rfl
/-! davit/spread.best -/
def M34 : Mt := { N := 34, keep := [(0, [0, 1, 2]), (1, [0, 1, 2, 7]), (2, [0, 2, 7, 11, 12, 13]), (3, [0, 2, 7, 11, 12, 13, 14]), (4, [0, 2, 7, 9, 11, 12, 13]), (5, [0, 2, 7, 9, 11, 12, 13, 30]), (6, [0, 2, 7, 11, 12, 13]), (7, [0, 2, 7, 11, 12, 13]), (8, [6])], ords := [(5, [0, 1, 2, 3, 4, 5, 6, 7, 8, 9, 10, 11, 12, 13])], bk := [(0, [7]), (1, [0, 2, 7, 11, 12, 13])], cuts := [], lk := [(3, [0, 2, 7, 11, 12, 13])] }
noncomputable def c34 : Code := bodyOf Tryd.f34
noncomputable def c34_0 : Code := c34.sr.sr.sr
noncomputable def c34_1 : Code := c34.sr.sr.sl.sr.sl.sl
def e34_1 (p0_loads_a : Option Addr) (p0_loads_n : Nat) (p0_loads_c : Nat) (p7_at : Int) (p11_t_a : Option Addr) (p11_t_n : Nat) (p11_t_c : Nat) (p12_t : Int) (p13_t : Int) : Env := [(0, SV.v (Value.slice p0_loads_a p0_loads_n p0_loads_c)), (2, SV.v (Value.func (Fn.func 35) #[] #[])), (7, SV.v (Value.int IntKind.i64 p7_at)), (11, SV.v (Value.slice p11_t_a p11_t_n p11_t_c)), (12, SV.v (Value.int IntKind.i64 p12_t)), (13, SV.v (Value.int IntKind.i64 p13_t))]
def k34_1 (R : Ending → World → Prop) : Cont := blockK 0 [7] (seqK (fun E w => cutB (findL M34.cuts (headReg c34_0)) Tryd.prog M34 c34_0 E w (retK Tryd.prog Tryd.f34.results.toList R) fun E => den Tryd.prog M34 c34_0 E w (retK Tryd.prog Tryd.f34.results.toList R)) (retK Tryd.prog Tryd.f34.results.toList R))
theorem b34 : Tryd.f34.body = some c34 := by kernel_rfl
theorem n34 : Tryd.f34.ntmps = M34.N := by kernel_rfl
set_option maxRecDepth 100000 in
theorem u34 {p0_loads_a : Option Addr} {p0_loads_n : Nat} {p0_loads_c : Nat} {p1_of : Int} {w : World} {R : Ending → World → Prop} (h : den Tryd.prog M34 c34 (argE 0 [(Value.slice p0_loads_a p0_loads_n p0_loads_c), (Value.int IntKind.u64 p1_of), (Value.func (Fn.func 35) #[] #[])]) w (retK Tryd.prog Tryd.f34.results.toList R)) : Calls Tryd.prog 34 #[(Value.slice p0_loads_a p0_loads_n p0_loads_c), (Value.int IntKind.u64 p1_of), (Value.func (Fn.func 35) #[] #[])] w R := calls_den okProg Tryd.func34 b34 n34 (Nat.le_of_ble_eq_true rfl) h
theorem t34 (p0_loads_a : Option Addr) (p0_loads_n : Nat) (p0_loads_c : Nat) (p1_of : Int) (w : World) (R : Ending → World → Prop) : den Tryd.prog M34 c34 (argE 0 [(Value.slice p0_loads_a p0_loads_n p0_loads_c), (Value.int IntKind.u64 p1_of), (Value.func (Fn.func 35) #[] #[])]) w (retK Tryd.prog Tryd.f34.results.toList R) =
(Call Tryd.prog 47 [Value.int IntKind.u64 p1_of] w fun e w' =>
  ∃ p n c,
    e = Ending.returned (Value.slice p n c) ∧
      Cut
        (WP Tryd.prog 34 (Code.loop c34_1)
          [(0, SV.v (Value.slice p0_loads_a p0_loads_n p0_loads_c)),
            (2, SV.v (Value.func (Fn.func 35) #[] #[])),
            (7, SV.v (Value.int IntKind.i64 (-1 : Int))), (11, SV.v (Value.slice p n c)),
            (12, SV.v (Value.int IntKind.i64 (↑n : Int))), (13, SV.v (Value.int IntKind.i64 0))]
          w' (k34_1 R))) := by kernel_rfl
theorem t34_1 (p0_loads_a : Option Addr) (p0_loads_n : Nat) (p0_loads_c : Nat) (p7_at : Int) (p11_t_a : Option Addr) (p11_t_n : Nat) (p11_t_c : Nat) (p12_t : Int) (p13_t : Int) (w : World) (B34_1 : Env → World → Prop) (R : Ending → World → Prop) : den Tryd.prog M34 c34_1 (e34_1 p0_loads_a p0_loads_n p0_loads_c p7_at p11_t_a p11_t_n p11_t_c p12_t p13_t) w (loopK B34_1 (k34_1 R)) =
((decide (p13_t < p12_t) = true →
    ((0 : Int) ≤ p13_t ∧ p13_t < (↑p11_t_n : Int)) ∧
      ∃ a,
        p11_t_a = some a ∧
          ∃ n,
            World.cell? w (Addr.add a (Int.toNat p13_t * 1)) = some (Value.int IntKind.i64 n) ∧
              ∀ (w' : World),
                World.heap w' = World.heap w →
                  World.os w' = World.os w →
                    World.tape w' = World.tape w →
                      World.output w' = World.output w →
                        (decide (p7_at < (0 : Int)) = false →
                            ((0 : Int) ≤ n ∧ n < (↑p0_loads_n : Int)) ∧
                              ∃ a,
                                p0_loads_a = some a ∧
                                  ∃ n_1,
                                    World.cell? w' (Addr.add a (Int.toNat n * 1)) =
                                        some (Value.int IntKind.i64 n_1) ∧
                                      ((0 : Int) ≤ p7_at ∧ p7_at < (↑p0_loads_n : Int)) ∧
                                        ∃ a,
                                          p0_loads_a = some a ∧
                                            ∃ n_2,
                                              World.cell? w' (Addr.add a (Int.toNat p7_at * 1)) =
                                                  some (Value.int IntKind.i64 n_2) ∧
                                                Call Tryd.prog 35
                                                  [Value.int IntKind.i64 n_1, Value.int IntKind.i64 n_2] w' fun e w' =>
                                                  ∃ b,
                                                    e = Ending.returned (Value.bool b) ∧
                                                      (b = true →
                                                          B34_1
                                                            [(0,
                                                                SV.v (Value.slice p0_loads_a p0_loads_n p0_loads_c)),
                                                              (2,
                                                                SV.v (Value.func (Fn.func 35) #[] #[])),
                                                              (7, SV.v (Value.int IntKind.i64 n)),
                                                              (11,
                                                                SV.v (Value.slice p11_t_a p11_t_n p11_t_c)),
                                                              (12, SV.v (Value.int IntKind.i64 p12_t)),
                                                              (13,
                                                                SV.v
                                                                  (Value.int IntKind.i64
                                                                    (IntKind.wrap IntKind.i64 (p13_t + (1 : Int)))))]
                                                            w') ∧
                                                        (b = false →
                                                          B34_1
                                                            [(0,
                                                                SV.v (Value.slice p0_loads_a p0_loads_n p0_loads_c)),
                                                              (2,
                                                                SV.v (Value.func (Fn.func 35) #[] #[])),
                                                              (7, SV.v (Value.int IntKind.i64 p7_at)),
                                                              (11,
                                                                SV.v (Value.slice p11_t_a p11_t_n p11_t_c)),
                                                              (12, SV.v (Value.int IntKind.i64 p12_t)),
                                                              (13,
                                                                SV.v
                                                                  (Value.int IntKind.i64
                                                                    (IntKind.wrap IntKind.i64 (p13_t + (1 : Int)))))]
                                                            w')) ∧
                          (decide (p7_at < (0 : Int)) = true →
                            B34_1
                              [(0, SV.v (Value.slice p0_loads_a p0_loads_n p0_loads_c)),
                                (2, SV.v (Value.func (Fn.func 35) #[] #[])),
                                (7, SV.v (Value.int IntKind.i64 n)),
                                (11, SV.v (Value.slice p11_t_a p11_t_n p11_t_c)),
                                (12, SV.v (Value.int IntKind.i64 p12_t)),
                                (13,
                                  SV.v (Value.int IntKind.i64 (IntKind.wrap IntKind.i64 (p13_t + (1 : Int)))))]
                              w')) ∧
  (decide (p13_t < p12_t) = false → R (Ending.returned (Value.int IntKind.i64 p7_at)) w)) := by kernel_rfl
/-! davit/spread.Plan$1 -/
def M35 : Mt := { N := 8, keep := [(0, [0, 1]), (1, [4])], ords := [], bk := [], cuts := [], lk := [] }
noncomputable def c35 : Code := bodyOf Tryd.f35
theorem b35 : Tryd.f35.body = some c35 := by kernel_rfl
theorem n35 : Tryd.f35.ntmps = M35.N := by kernel_rfl
set_option maxRecDepth 100000 in
theorem u35 {p0_a : Int} {p1_b : Int} {w : World} {R : Ending → World → Prop} (h : den Tryd.prog M35 c35 (argE 0 [(Value.int IntKind.i64 p0_a), (Value.int IntKind.i64 p1_b)]) w (retK Tryd.prog Tryd.f35.results.toList R)) : Calls Tryd.prog 35 #[(Value.int IntKind.i64 p0_a), (Value.int IntKind.i64 p1_b)] w R := calls_den okProg Tryd.func35 b35 n35 (Nat.le_of_ble_eq_true rfl) h
theorem t35 (p0_a : Int) (p1_b : Int) (w : World) (R : Ending → World → Prop) : den Tryd.prog M35 c35 (argE 0 [(Value.int IntKind.i64 p0_a), (Value.int IntKind.i64 p1_b)]) w (retK Tryd.prog Tryd.f35.results.toList R) =
(R (Ending.returned (Value.bool (decide (p0_a > p1_b)))) w) := by kernel_rfl
/-! davit/spread.Plan$2 -/
def M36 : Mt := { N := 8, keep := [(0, [0, 1]), (1, [4])], ords := [], bk := [], cuts := [], lk := [] }
noncomputable def c36 : Code := bodyOf Tryd.f36
theorem b36 : Tryd.f36.body = some c36 := by kernel_rfl
theorem n36 : Tryd.f36.ntmps = M36.N := by kernel_rfl
set_option maxRecDepth 100000 in
theorem u36 {p0_a : Int} {p1_b : Int} {w : World} {R : Ending → World → Prop} (h : den Tryd.prog M36 c36 (argE 0 [(Value.int IntKind.i64 p0_a), (Value.int IntKind.i64 p1_b)]) w (retK Tryd.prog Tryd.f36.results.toList R)) : Calls Tryd.prog 36 #[(Value.int IntKind.i64 p0_a), (Value.int IntKind.i64 p1_b)] w R := calls_den okProg Tryd.func36 b36 n36 (Nat.le_of_ble_eq_true rfl) h
theorem t36 (p0_a : Int) (p1_b : Int) (w : World) (R : Ending → World → Prop) : den Tryd.prog M36 c36 (argE 0 [(Value.int IntKind.i64 p0_a), (Value.int IntKind.i64 p1_b)]) w (retK Tryd.prog Tryd.f36.results.toList R) =
(R (Ending.returned (Value.bool (decide (p0_a < p1_b)))) w) := by kernel_rfl
/-! davit/davitref01.Not -/
def M38 : Mt := { N := 26, keep := [(0, [0, 1]), (1, [0, 1, 5]), (2, [0, 1, 5, 6]), (3, [0, 1, 5, 6, 8]), (4, [0, 1, 5, 6]), (5, [0, 1, 5, 6, 19]), (6, [0, 1, 5, 6]), (7, [4])], ords := [], bk := [(0, [5]), (1, [0, 1, 5, 6])], cuts := [(7, [5])], lk := [(3, [0, 1, 5, 6])] }
noncomputable def c38 : Code := bodyOf Tryd.f38
noncomputable def c38_0 : Code := c38.sr.sr.sr
noncomputable def c38_1 : Code := c38.sr.sr.sl.sr.sl.sl
def e38_0 (p5_l_a : Option Addr) (p5_l_n : Nat) (p5_l_c : Nat) : Env := [(5, SV.v (Value.slice p5_l_a p5_l_n p5_l_c))]
def e38_1 (p0_m : Int) (p1_o : Int) (p5_l_a : Option Addr) (p5_l_n : Nat) (p5_l_c : Nat) (p6_i : Int) : Env := [(0, SV.v (Value.int IntKind.u64 p0_m)), (1, SV.v (Value.int IntKind.u64 p1_o)), (5, SV.v (Value.slice p5_l_a p5_l_n p5_l_c)), (6, SV.v (Value.int IntKind.i64 p6_i))]
def k38_0 (R : Ending → World → Prop) : Cont := retK Tryd.prog Tryd.f38.results.toList R
def k38_1 (R : Ending → World → Prop) : Cont := blockK 0 [5] (seqK (fun E w => cutB (findL M38.cuts (headReg c38_0)) Tryd.prog M38 c38_0 E w (retK Tryd.prog Tryd.f38.results.toList R) fun E => den Tryd.prog M38 c38_0 E w (retK Tryd.prog Tryd.f38.results.toList R)) (retK Tryd.prog Tryd.f38.results.toList R))
theorem b38 : Tryd.f38.body = some c38 := by kernel_rfl
theorem n38 : Tryd.f38.ntmps = M38.N := by kernel_rfl
set_option maxRecDepth 100000 in
theorem u38 {p0_m : Int} {p1_o : Int} {w : World} {R : Ending → World → Prop} (h : den Tryd.prog M38 c38 (argE 0 [(Value.int IntKind.u64 p0_m), (Value.int IntKind.u64 p1_o)]) w (retK Tryd.prog Tryd.f38.results.toList R)) : Calls Tryd.prog 38 #[(Value.int IntKind.u64 p0_m), (Value.int IntKind.u64 p1_o)] w R := calls_den okProg Tryd.func38 b38 n38 (Nat.le_of_ble_eq_true rfl) h
theorem t38 (p0_m : Int) (p1_o : Int) (w : World) (R : Ending → World → Prop) : den Tryd.prog M38 c38 (argE 0 [(Value.int IntKind.u64 p0_m), (Value.int IntKind.u64 p1_o)]) w (retK Tryd.prog Tryd.f38.results.toList R) =
(Cut (WP Tryd.prog 26 (Code.loop c38_1) (e38_1 p0_m p1_o none 0 0 (0 : Int)) w (k38_1 R))) := by kernel_rfl
theorem t38_0 (p5_l_a : Option Addr) (p5_l_n : Nat) (p5_l_c : Nat) (w : World) (R : Ending → World → Prop) : den Tryd.prog M38 c38_0 (e38_0 p5_l_a p5_l_n p5_l_c) w (k38_0 R) =
(Call Tryd.prog 49 [Value.slice p5_l_a p5_l_n p5_l_c] w fun e w' =>
  ∃ n, e = Ending.returned (Value.int IntKind.u64 n) ∧ R (Ending.returned (Value.int IntKind.u64 n)) w') := by kernel_rfl
theorem t38_1 (p0_m : Int) (p1_o : Int) (p5_l_a : Option Addr) (p5_l_n : Nat) (p5_l_c : Nat) (p6_i : Int) (w : World) (B38_1 : Env → World → Prop) (R : Ending → World → Prop) : den Tryd.prog M38 c38_1 (e38_1 p0_m p1_o p5_l_a p5_l_n p5_l_c p6_i) w (loopK B38_1 (k38_1 R)) =
((decide (p6_i < (64 : Int)) = true →
    Call Tryd.prog 31 [Value.int IntKind.u64 p0_m, Value.int IntKind.i64 p6_i] w fun e w' =>
      ∃ b,
        e = Ending.returned (Value.bool b) ∧
          (b = true →
              Call Tryd.prog 31 [Value.int IntKind.u64 p1_o, Value.int IntKind.i64 p6_i] w' fun e w' =>
                ∃ b,
                  e = Ending.returned (Value.bool b) ∧
                    ((!b) = true →
                        New w' [Value.int IntKind.i64 p6_i] 3 fun p w' =>
                          ∃ p_1 n c w'_1,
                            Sem.run Tryd.prog
                                  (Builtin.append_ #[23, 23] 23
                                    #[Value.slice p5_l_a p5_l_n p5_l_c, Value.slice (some p) 1 1])
                                  w' =
                                Result.ok (Value.slice p_1 n c) w'_1 ∧
                              B38_1
                                [(0, SV.v (Value.int IntKind.u64 p0_m)),
                                  (1, SV.v (Value.int IntKind.u64 p1_o)),
                                  (5, SV.v (Value.slice p_1 n c)),
                                  (6,
                                    SV.v (Value.int IntKind.i64 (IntKind.wrap IntKind.i64 (p6_i + (1 : Int)))))]
                                w'_1) ∧
                      ((!b) = false →
                        B38_1
                          [(0, SV.v (Value.int IntKind.u64 p0_m)),
                            (1, SV.v (Value.int IntKind.u64 p1_o)),
                            (5, SV.v (Value.slice p5_l_a p5_l_n p5_l_c)),
                            (6, SV.v (Value.int IntKind.i64 (IntKind.wrap IntKind.i64 (p6_i + (1 : Int)))))]
                          w')) ∧
            (b = false →
              B38_1
                [(0, SV.v (Value.int IntKind.u64 p0_m)), (1, SV.v (Value.int IntKind.u64 p1_o)),
                  (5, SV.v (Value.slice p5_l_a p5_l_n p5_l_c)),
                  (6, SV.v (Value.int IntKind.i64 (IntKind.wrap IntKind.i64 (p6_i + (1 : Int)))))]
                w')) ∧
  (decide (p6_i < (64 : Int)) = false → CutD Tryd.prog M38 c38_0 (e38_0 p5_l_a p5_l_n p5_l_c) w (k38_0 R))) := by kernel_rfl
/-! davit/davitref01.Upto -/
def M39 : Mt := { N := 18, keep := [(0, [0]), (1, [0, 3]), (2, [0, 3, 4]), (3, [0, 3, 4, 11]), (4, [0, 3, 4]), (5, [0, 3, 4]), (6, [2])], ords := [], bk := [(0, [3]), (1, [0, 3, 4])], cuts := [], lk := [(3, [0, 3, 4])] }
noncomputable def c39 : Code := bodyOf Tryd.f39
noncomputable def c39_0 : Code := c39.sr.sr.sr
noncomputable def c39_1 : Code := c39.sr.sr.sl.sr.sl.sl
def e39_1 (p0_n : Int) (p3_m : Int) (p4_i : Int) : Env := [(0, SV.v (Value.int IntKind.i64 p0_n)), (3, SV.v (Value.int IntKind.u64 p3_m)), (4, SV.v (Value.int IntKind.i64 p4_i))]
def k39_1 (R : Ending → World → Prop) : Cont := blockK 0 [3] (seqK (fun E w => cutB (findL M39.cuts (headReg c39_0)) Tryd.prog M39 c39_0 E w (retK Tryd.prog Tryd.f39.results.toList R) fun E => den Tryd.prog M39 c39_0 E w (retK Tryd.prog Tryd.f39.results.toList R)) (retK Tryd.prog Tryd.f39.results.toList R))
theorem b39 : Tryd.f39.body = some c39 := by kernel_rfl
theorem n39 : Tryd.f39.ntmps = M39.N := by kernel_rfl
set_option maxRecDepth 100000 in
theorem u39 {p0_n : Int} {w : World} {R : Ending → World → Prop} (h : den Tryd.prog M39 c39 (argE 0 [(Value.int IntKind.i64 p0_n)]) w (retK Tryd.prog Tryd.f39.results.toList R)) : Calls Tryd.prog 39 #[(Value.int IntKind.i64 p0_n)] w R := calls_den okProg Tryd.func39 b39 n39 (Nat.le_of_ble_eq_true rfl) h
theorem t39 (p0_n : Int) (w : World) (R : Ending → World → Prop) : den Tryd.prog M39 c39 (argE 0 [(Value.int IntKind.i64 p0_n)]) w (retK Tryd.prog Tryd.f39.results.toList R) =
(Cut (WP Tryd.prog 18 (Code.loop c39_1) (e39_1 p0_n (0 : Int) (0 : Int)) w (k39_1 R))) := by kernel_rfl
theorem t39_1 (p0_n : Int) (p3_m : Int) (p4_i : Int) (w : World) (B39_1 : Env → World → Prop) (R : Ending → World → Prop) : den Tryd.prog M39 c39_1 (e39_1 p0_n p3_m p4_i) w (loopK B39_1 (k39_1 R)) =
((decide (p4_i < p0_n) = true →
    (decide (p4_i < (64 : Int)) = true →
        Call Tryd.prog 50 [Value.int IntKind.u64 p3_m, Value.int IntKind.i64 p4_i] w fun e w' =>
          ∃ n,
            e = Ending.returned (Value.int IntKind.u64 n) ∧
              B39_1
                [(0, SV.v (Value.int IntKind.i64 p0_n)), (3, SV.v (Value.int IntKind.u64 n)),
                  (4, SV.v (Value.int IntKind.i64 (IntKind.wrap IntKind.i64 (p4_i + (1 : Int)))))]
                w') ∧
      (decide (p4_i < (64 : Int)) = false → R (Ending.returned (Value.int IntKind.u64 p3_m)) w)) ∧
  (decide (p4_i < p0_n) = false → R (Ending.returned (Value.int IntKind.u64 p3_m)) w)) := by kernel_rfl
/-! davit/davitref39.wrong -/
def M40 : Mt := { N := 37, keep := [(0, [0, 1]), (1, [0, 1, 5]), (2, [0, 1, 5, 10]), (3, [0, 1, 5]), (4, [0, 1, 5, 20]), (5, [4]), (6, [0, 1, 5, 6]), (7, [0, 1, 5, 6, 23]), (8, [0, 1, 5, 6]), (9, [0, 1, 5, 6, 36]), (10, [4]), (11, [4])], ords := [(9, [0, 1, 2, 3, 4, 5, 6, 7, 8, 9, 10])], bk := [(0, []), (1, [0, 1, 5]), (2, [0, 1, 5]), (3, [0, 1, 5, 6])], cuts := [], lk := [(2, [0, 1, 5]), (7, [0, 1, 5, 6])] }
noncomputable def c40 : Code := bodyOf Tryd.f40
noncomputable def c40_0 : Code := c40.sr.sr
noncomputable def c40_1 : Code := c40.sr.sl.sr.sl.sl
noncomputable def c40_2 : Code := c40.sr.sl.sr.sl.sl.sr.sr
noncomputable def c40_3 : Code := c40.sr.sl.sr.sl.sl.sr.sl.sl.sr.sr.sl.sl
def e40_1 (p0_active : Int) (p1_l_a : Option Addr) (p1_l_n : Nat) (p1_l_c : Nat) (p5_i : Int) : Env := [(0, SV.v (Value.int IntKind.u64 p0_active)), (1, SV.v (Value.slice p1_l_a p1_l_n p1_l_c)), (5, SV.v (Value.int IntKind.i64 p5_i))]
def e40_3 (p0_active : Int) (p1_l_a : Option Addr) (p1_l_n : Nat) (p1_l_c : Nat) (p5_i : Int) (p6_k : Int) : Env := [(0, SV.v (Value.int IntKind.u64 p0_active)), (1, SV.v (Value.slice p1_l_a p1_l_n p1_l_c)), (5, SV.v (Value.int IntKind.i64 p5_i)), (6, SV.v (Value.int IntKind.i64 p6_k))]
def k40_1 (R : Ending → World → Prop) : Cont := blockK 0 [] (seqK (fun E w => cutB (findL M40.cuts (headReg c40_0)) Tryd.prog M40 c40_0 E w (retK Tryd.prog Tryd.f40.results.toList R) fun E => den Tryd.prog M40 c40_0 E w (retK Tryd.prog Tryd.f40.results.toList R)) (retK Tryd.prog Tryd.f40.results.toList R))
def k40_3 (B40_1 : Env → World → Prop) (R : Ending → World → Prop) : Cont := blockK 2 [0, 1, 5] (blockK 1 [0, 1, 5] (seqK (fun E w => cutB (findL M40.cuts (headReg c40_2)) Tryd.prog M40 c40_2 E w (loopK B40_1 (blockK 0 [] (seqK (fun E w => cutB (findL M40.cuts (headReg c40_0)) Tryd.prog M40 c40_0 E w (retK Tryd.prog Tryd.f40.results.toList R) fun E => den Tryd.prog M40 c40_0 E w (retK Tryd.prog Tryd.f40.results.toList R)) (retK Tryd.prog Tryd.f40.results.toList R)))) fun E => den Tryd.prog M40 c40_2 E w (loopK B40_1 (blockK 0 [] (seqK (fun E w => cutB (findL M40.cuts (headReg c40_0)) Tryd.prog M40 c40_0 E w (retK Tryd.prog Tryd.f40.results.toList R) fun E => den Tryd.prog M40 c40_0 E w (retK Tryd.prog Tryd.f40.results.toList R)) (retK Tryd.prog Tryd.f40.results.toList R))))) (loopK B40_1 (blockK 0 [] (seqK (fun E w => cutB (findL M40.cuts (headReg c40_0)) Tryd.prog M40 c40_0 E w (retK Tryd.prog Tryd.f40.results.toList R) fun E => den Tryd.prog M40 c40_0 E w (retK Tryd.prog Tryd.f40.results.toList R)) (retK Tryd.prog Tryd.f40.results.toList R))))))
theorem b40 : Tryd.f40.body = some c40 := by kernel_rfl
theorem n40 : Tryd.f40.ntmps = M40.N := by kernel_rfl
set_option maxRecDepth 100000 in
theorem u40 {p0_active : Int} {p1_l_a : Option Addr} {p1_l_n : Nat} {p1_l_c : Nat} {w : World} {R : Ending → World → Prop} (h : den Tryd.prog M40 c40 (argE 0 [(Value.int IntKind.u64 p0_active), (Value.slice p1_l_a p1_l_n p1_l_c)]) w (retK Tryd.prog Tryd.f40.results.toList R)) : Calls Tryd.prog 40 #[(Value.int IntKind.u64 p0_active), (Value.slice p1_l_a p1_l_n p1_l_c)] w R := calls_den okProg Tryd.func40 b40 n40 (Nat.le_of_ble_eq_true rfl) h
theorem t40 (p0_active : Int) (p1_l_a : Option Addr) (p1_l_n : Nat) (p1_l_c : Nat) (w : World) (R : Ending → World → Prop) : den Tryd.prog M40 c40 (argE 0 [(Value.int IntKind.u64 p0_active), (Value.slice p1_l_a p1_l_n p1_l_c)]) w (retK Tryd.prog Tryd.f40.results.toList R) =
(Cut (WP Tryd.prog 37 (Code.loop c40_1) (e40_1 p0_active p1_l_a p1_l_n p1_l_c (0 : Int)) w (k40_1 R))) := by kernel_rfl
theorem t40_1 (p0_active : Int) (p1_l_a : Option Addr) (p1_l_n : Nat) (p1_l_c : Nat) (p5_i : Int) (w : World) (B40_1 : Env → World → Prop) (R : Ending → World → Prop) : den Tryd.prog M40 c40_1 (e40_1 p0_active p1_l_a p1_l_n p1_l_c p5_i) w (loopK B40_1 (k40_1 R)) =
((decide (p5_i < (↑p1_l_n : Int)) = true →
    ((0 : Int) ≤ p5_i ∧ p5_i < (↑p1_l_n : Int)) ∧
      ∃ a,
        p1_l_a = some a ∧
          ∃ n,
            World.cell? w (Addr.add (Addr.add a (Int.toNat p5_i * 3)) 1) =
                some (Value.int IntKind.i64 n) ∧
              Call Tryd.prog 31 [Value.int IntKind.u64 p0_active, Value.int IntKind.i64 n] w fun e w' =>
                ∃ b,
                  e = Ending.returned (Value.bool b) ∧
                    ((!b) = true → R (Ending.returned (Value.bool true)) w') ∧
                      ((!b) = false →
                        Cut
                          (WP Tryd.prog 37 (Code.loop c40_3)
                            (e40_3 p0_active p1_l_a p1_l_n p1_l_c p5_i (0 : Int)) w' (k40_3 B40_1 R)))) ∧
  (decide (p5_i < (↑p1_l_n : Int)) = false → R (Ending.returned (Value.bool false)) w)) := by kernel_rfl
theorem t40_3 (p0_active : Int) (p1_l_a : Option Addr) (p1_l_n : Nat) (p1_l_c : Nat) (p5_i : Int) (p6_k : Int) (w : World) (B40_1 : Env → World → Prop) (B40_3 : Env → World → Prop) (R : Ending → World → Prop) : den Tryd.prog M40 c40_3 (e40_3 p0_active p1_l_a p1_l_n p1_l_c p5_i p6_k) w (loopK B40_3 (k40_3 B40_1 R)) =
((decide (p6_k < p5_i) = true →
    ∀ (w' : World),
      World.heap w' = World.heap w →
        World.os w' = World.os w →
          World.tape w' = World.tape w →
            World.output w' = World.output w →
              ((0 : Int) ≤ p6_k ∧ p6_k < (↑p1_l_n : Int)) ∧
                ∃ a,
                  p1_l_a = some a ∧
                    ∃ n,
                      World.cell? w' (Addr.add (Addr.add a (Int.toNat p6_k * 3)) 0) =
                          some (Value.int IntKind.i64 n) ∧
                        ((0 : Int) ≤ p5_i ∧ p5_i < (↑p1_l_n : Int)) ∧
                          ∃ a,
                            p1_l_a = some a ∧
                              ∃ n_1,
                                World.cell? w' (Addr.add (Addr.add a (Int.toNat p5_i * 3)) 0) =
                                    some (Value.int IntKind.i64 n_1) ∧
                                  ((n == n_1) = true → R (Ending.returned (Value.bool true)) w') ∧
                                    ((n == n_1) = false →
                                      B40_3
                                        [(0, SV.v (Value.int IntKind.u64 p0_active)),
                                          (1, SV.v (Value.slice p1_l_a p1_l_n p1_l_c)),
                                          (5, SV.v (Value.int IntKind.i64 p5_i)),
                                          (6,
                                            SV.v
                                              (Value.int IntKind.i64 (IntKind.wrap IntKind.i64 (p6_k + (1 : Int)))))]
                                        w')) ∧
  (decide (p6_k < p5_i) = false →
    B40_1
      [(0, SV.v (Value.int IntKind.u64 p0_active)), (1, SV.v (Value.slice p1_l_a p1_l_n p1_l_c)),
        (5, SV.v (Value.int IntKind.i64 (IntKind.wrap IntKind.i64 (p5_i + (1 : Int)))))]
      w)) := by kernel_rfl
/-! davit/davitref39.best -/
def M41 : Mt := { N := 47, keep := [(0, [0, 1, 2]), (1, [0, 1, 2, 7]), (2, [0, 1, 2, 7, 8]), (3, [0, 1, 2, 7, 8, 10]), (4, [0, 1, 2, 7, 8]), (5, [0, 1, 2, 7, 8, 44]), (6, [0, 1, 2, 7, 8]), (7, [6])], ords := [], bk := [(0, [7]), (1, [0, 1, 2, 7, 8])], cuts := [], lk := [(3, [0, 1, 2, 7, 8])] }
noncomputable def c41 : Code := bodyOf Tryd.f41
noncomputable def c41_0 : Code := c41.sr.sr.sr
noncomputable def c41_1 : Code := c41.sr.sr.sl.sr.sl.sl
def e41_1 (p0_active : Int) (p1_l_a : Option Addr) (p1_l_n : Nat) (p1_l_c : Nat) (p2_most : Bool) (p7_at : Int) (p8_c : Int) : Env := [(0, SV.v (Value.int IntKind.u64 p0_active)), (1, SV.v (Value.slice p1_l_a p1_l_n p1_l_c)), (2, SV.v (Value.bool p2_most)), (7, SV.v (Value.int IntKind.i64 p7_at)), (8, SV.v (Value.int IntKind.i64 p8_c))]
def k41_1 (R : Ending → World → Prop) : Cont := blockK 0 [7] (seqK (fun E w => cutB (findL M41.cuts (headReg c41_0)) Tryd.prog M41 c41_0 E w (retK Tryd.prog Tryd.f41.results.toList R) fun E => den Tryd.prog M41 c41_0 E w (retK Tryd.prog Tryd.f41.results.toList R)) (retK Tryd.prog Tryd.f41.results.toList R))
theorem b41 : Tryd.f41.body = some c41 := by kernel_rfl
theorem n41 : Tryd.f41.ntmps = M41.N := by kernel_rfl
set_option maxRecDepth 100000 in
theorem u41 {p0_active : Int} {p1_l_a : Option Addr} {p1_l_n : Nat} {p1_l_c : Nat} {p2_most : Bool} {w : World} {R : Ending → World → Prop} (h : den Tryd.prog M41 c41 (argE 0 [(Value.int IntKind.u64 p0_active), (Value.slice p1_l_a p1_l_n p1_l_c), (Value.bool p2_most)]) w (retK Tryd.prog Tryd.f41.results.toList R)) : Calls Tryd.prog 41 #[(Value.int IntKind.u64 p0_active), (Value.slice p1_l_a p1_l_n p1_l_c), (Value.bool p2_most)] w R := calls_den okProg Tryd.func41 b41 n41 (Nat.le_of_ble_eq_true rfl) h
theorem t41 (p0_active : Int) (p1_l_a : Option Addr) (p1_l_n : Nat) (p1_l_c : Nat) (p2_most : Bool) (w : World) (R : Ending → World → Prop) : den Tryd.prog M41 c41 (argE 0 [(Value.int IntKind.u64 p0_active), (Value.slice p1_l_a p1_l_n p1_l_c), (Value.bool p2_most)]) w (retK Tryd.prog Tryd.f41.results.toList R) =
(Cut
  (WP Tryd.prog 47 (Code.loop c41_1) (e41_1 p0_active p1_l_a p1_l_n p1_l_c p2_most (-1 : Int) (0 : Int)) w
    (k41_1 R))) := by kernel_rfl
theorem t41_1 (p0_active : Int) (p1_l_a : Option Addr) (p1_l_n : Nat) (p1_l_c : Nat) (p2_most : Bool) (p7_at : Int) (p8_c : Int) (w : World) (B41_1 : Env → World → Prop) (R : Ending → World → Prop) : den Tryd.prog M41 c41_1 (e41_1 p0_active p1_l_a p1_l_n p1_l_c p2_most p7_at p8_c) w (loopK B41_1 (k41_1 R)) =
((decide (p8_c < (64 : Int)) = true →
    Call Tryd.prog 31 [Value.int IntKind.u64 p0_active, Value.int IntKind.i64 p8_c] w fun e w' =>
      ∃ b,
        e = Ending.returned (Value.bool b) ∧
          (b = true →
              (decide (p7_at < (0 : Int)) = false →
                  (p2_most = true →
                      Call Tryd.prog 27 [Value.slice p1_l_a p1_l_n p1_l_c, Value.int IntKind.i64 p8_c] w'
                        fun e w' =>
                        ∃ n,
                          e = Ending.returned (Value.int IntKind.i64 n) ∧
                            Call Tryd.prog 27
                              [Value.slice p1_l_a p1_l_n p1_l_c, Value.int IntKind.i64 p7_at] w' fun e w' =>
                              ∃ n_1,
                                e = Ending.returned (Value.int IntKind.i64 n_1) ∧
                                  (decide (n > n_1) = false →
                                      ((!p2_most) = true →
                                          Call Tryd.prog 27
                                            [Value.slice p1_l_a p1_l_n p1_l_c, Value.int IntKind.i64 p8_c] w'
                                            fun e w' =>
                                            ∃ n,
                                              e = Ending.returned (Value.int IntKind.i64 n) ∧
                                                Call Tryd.prog 27
                                                  [Value.slice p1_l_a p1_l_n p1_l_c, Value.int IntKind.i64 p7_at] w'
                                                  fun e w' =>
                                                  ∃ n_2,
                                                    e = Ending.returned (Value.int IntKind.i64 n_2) ∧
                                                      (decide (n < n_2) = true →
                                                          B41_1
                                                            [(0, SV.v (Value.int IntKind.u64 p0_active)),
                                                              (1, SV.v (Value.slice p1_l_a p1_l_n p1_l_c)),
                                                              (2, SV.v (Value.bool p2_most)),
                                                              (7, SV.v (Value.int IntKind.i64 p8_c)),
                                                              (8,
                                                                SV.v
                                                                  (Value.int IntKind.i64
                                                                    (IntKind.wrap IntKind.i64 (p8_c + (1 : Int)))))]
                                                            w') ∧
                                                        (decide (n < n_2) = false →
                                                          B41_1
                                                            [(0, SV.v (Value.int IntKind.u64 p0_active)),
                                                              (1, SV.v (Value.slice p1_l_a p1_l_n p1_l_c)),
                                                              (2, SV.v (Value.bool p2_most)),
                                                              (7, SV.v (Value.int IntKind.i64 p7_at)),
                                                              (8,
                                                                SV.v
                                                                  (Value.int IntKind.i64
                                                                    (IntKind.wrap IntKind.i64 (p8_c + (1 : Int)))))]
                                                            w')) ∧
                                        ((!p2_most) = false →
                                          B41_1
                                            [(0, SV.v (Value.int IntKind.u64 p0_active)),
                                              (1, SV.v (Value.slice p1_l_a p1_l_n p1_l_c)),
                                              (2, SV.v (Value.bool p2_most)),
                                              (7, SV.v (Value.int IntKind.i64 p7_at)),
                                              (8,
                                                SV.v
                                                  (Value.int IntKind.i64
                                                    (IntKind.wrap IntKind.i64 (p8_c + (1 : Int)))))]
                                            w')) ∧
                                    (decide (n > n_1) = true →
                                      B41_1
                                        [(0, SV.v (Value.int IntKind.u64 p0_active)),
                                          (1, SV.v (Value.slice p1_l_a p1_l_n p1_l_c)),
                                          (2, SV.v (Value.bool p2_most)),
                                          (7, SV.v (Value.int IntKind.i64 p8_c)),
                                          (8,
                                            SV.v
                                              (Value.int IntKind.i64 (IntKind.wrap IntKind.i64 (p8_c + (1 : Int)))))]
                                        w')) ∧
                    (p2_most = false →
                      ((!p2_most) = true →
                          Call Tryd.prog 27 [Value.slice p1_l_a p1_l_n p1_l_c, Value.int IntKind.i64 p8_c]
                            w' fun e w' =>
                            ∃ n,
                              e = Ending.returned (Value.int IntKind.i64 n) ∧
                                Call Tryd.prog 27
                                  [Value.slice p1_l_a p1_l_n p1_l_c, Value.int IntKind.i64 p7_at] w' fun e w' =>
                                  ∃ n_1,
                                    e = Ending.returned (Value.int IntKind.i64 n_1) ∧
                                      (decide (n < n_1) = true →
                                          B41_1
                                            [(0, SV.v (Value.int IntKind.u64 p0_active)),
                                              (1, SV.v (Value.slice p1_l_a p1_l_n p1_l_c)),
                                              (2, SV.v (Value.bool p2_most)),
                                              (7, SV.v (Value.int IntKind.i64 p8_c)),
                                              (8,
                                                SV.v
                                                  (Value.int IntKind.i64
                                                    (IntKind.wrap IntKind.i64 (p8_c + (1 : Int)))))]
                                            w') ∧
                                        (decide (n < n_1) = false →
                                          B41_1
                                            [(0, SV.v (Value.int IntKind.u64 p0_active)),
                                              (1, SV.v (Value.slice p1_l_a p1_l_n p1_l_c)),
                                              (2, SV.v (Value.bool p2_most)),
                                              (7, SV.v (Value.int IntKind.i64 p7_at)),
                                              (8,
                                                SV.v
                                                  (Value.int IntKind.i64
                                                    (IntKind.wrap IntKind.i64 (p8_c + (1 : Int)))))]
                                            w')) ∧
                        ((!p2_most) = false →
                          B41_1
                            [(0, SV.v (Value.int IntKind.u64 p0_active)),
                              (1, SV.v (Value.slice p1_l_a p1_l_n p1_l_c)),
                              (2, SV.v (Value.bool p2_most)), (7, SV.v (Value.int IntKind.i64 p7_at)),
                              (8, SV.v (Value.int IntKind.i64 (IntKind.wrap IntKind.i64 (p8_c + (1 : Int)))))]
                            w'))) ∧
                (decide (p7_at < (0 : Int)) = true →
                  B41_1
                    [(0, SV.v (Value.int IntKind.u64 p0_active)),
                      (1, SV.v (Value.slice p1_l_a p1_l_n p1_l_c)), (2, SV.v (Value.bool p2_most)),
                      (7, SV.v (Value.int IntKind.i64 p8_c)),
                      (8, SV.v (Value.int IntKind.i64 (IntKind.wrap IntKind.i64 (p8_c + (1 : Int)))))]
                    w')) ∧
            (b = false →
              B41_1
                [(0, SV.v (Value.int IntKind.u64 p0_active)),
                  (1, SV.v (Value.slice p1_l_a p1_l_n p1_l_c)), (2, SV.v (Value.bool p2_most)),
                  (7, SV.v (Value.int IntKind.i64 p7_at)),
                  (8, SV.v (Value.int IntKind.i64 (IntKind.wrap IntKind.i64 (p8_c + (1 : Int)))))]
                w')) ∧
  (decide (p8_c < (64 : Int)) = false → R (Ending.returned (Value.int IntKind.i64 p7_at)) w)) := by kernel_rfl
/-! slices.IndexFunc[[]davit/spread.Item,davit/spread.Item] -/
def M42 : Mt := { N := 19, keep := [(0, [0, 1]), (1, [0, 1, 7, 8]), (2, [0, 1, 7, 8, 9]), (3, [0, 1, 5, 7, 8]), (4, [0, 1, 5, 7, 8, 16]), (5, [4]), (6, [0, 1, 7, 8]), (7, [4])], ords := [], bk := [(0, []), (1, [0, 1, 7, 8])], cuts := [], lk := [(2, [0, 1, 7, 8])] }
noncomputable def c42 : Code := bodyOf Tryd.f42
noncomputable def c42_0 : Code := c42.sr.sr
noncomputable def c42_1 : Code := c42.sr.sl.sr.sl.sl
def e42_1 (p0_s_a : Option Addr) (p0_s_n : Nat) (p0_s_c : Nat) (p1_f_0 : Addr) (p7_t : Int) (p8_t : Int) : Env := [(0, SV.v (Value.slice p0_s_a p0_s_n p0_s_c)), (1, SV.v (Value.func (Fn.func 43) #[] #[(Value.pointer (some p1_f_0))])), (7, SV.v (Value.int IntKind.i64 p7_t)), (8, SV.v (Value.int IntKind.i64 p8_t))]
def k42_1 (R : Ending → World → Prop) : Cont := blockK 0 [] (seqK (fun E w => cutB (findL M42.cuts (headReg c42_0)) Tryd.prog M42 c42_0 E w (retK Tryd.prog Tryd.f42.results.toList R) fun E => den Tryd.prog M42 c42_0 E w (retK Tryd.prog Tryd.f42.results.toList R)) (retK Tryd.prog Tryd.f42.results.toList R))
theorem b42 : Tryd.f42.body = some c42 := by kernel_rfl
theorem n42 : Tryd.f42.ntmps = M42.N := by kernel_rfl
set_option maxRecDepth 100000 in
theorem u42 {p0_s_a : Option Addr} {p0_s_n : Nat} {p0_s_c : Nat} {p1_f_0 : Addr} {w : World} {R : Ending → World → Prop} (h : den Tryd.prog M42 c42 (argE 0 [(Value.slice p0_s_a p0_s_n p0_s_c), (Value.func (Fn.func 43) #[] #[(Value.pointer (some p1_f_0))])]) w (retK Tryd.prog Tryd.f42.results.toList R)) : Calls Tryd.prog 42 #[(Value.slice p0_s_a p0_s_n p0_s_c), (Value.func (Fn.func 43) #[] #[(Value.pointer (some p1_f_0))])] w R := calls_den okProg Tryd.func42 b42 n42 (Nat.le_of_ble_eq_true rfl) h
theorem t42 (p0_s_a : Option Addr) (p0_s_n : Nat) (p0_s_c : Nat) (p1_f_0 : Addr) (w : World) (R : Ending → World → Prop) : den Tryd.prog M42 c42 (argE 0 [(Value.slice p0_s_a p0_s_n p0_s_c), (Value.func (Fn.func 43) #[] #[(Value.pointer (some p1_f_0))])]) w (retK Tryd.prog Tryd.f42.results.toList R) =
(Cut
  (WP Tryd.prog 19 (Code.loop c42_1)
    [(0, SV.v (Value.slice p0_s_a p0_s_n p0_s_c)),
      (1, SV.v (Value.func (Fn.func 43) #[] #[Value.pointer (some p1_f_0)])),
      (7, SV.v (Value.int IntKind.i64 (↑p0_s_n : Int))), (8, SV.v (Value.int IntKind.i64 0))]
    w (k42_1 R))) := by kernel_rfl
theorem t42_1 (p0_s_a : Option Addr) (p0_s_n : Nat) (p0_s_c : Nat) (p1_f_0 : Addr) (p7_t : Int) (p8_t : Int) (w : World) (B42_1 : Env → World → Prop) (R : Ending → World → Prop) : den Tryd.prog M42 c42_1 (e42_1 p0_s_a p0_s_n p0_s_c p1_f_0 p7_t p8_t) w (loopK B42_1 (k42_1 R)) =
((decide (p8_t < p7_t) = true →
    ((0 : Int) ≤ p8_t ∧ p8_t < (↑p0_s_n : Int)) ∧
      ∃ a,
        p0_s_a = some a ∧
          ∃ n,
            World.cell? w (Addr.add (Addr.add a (Int.toNat p8_t * 3)) 0) =
                some (Value.int IntKind.i64 n) ∧
              ∃ n_1,
                World.cell? w (Addr.add (Addr.add a (Int.toNat p8_t * 3)) 1) =
                    some (Value.int IntKind.i64 n_1) ∧
                  ∃ n_2,
                    World.cell? w (Addr.add (Addr.add a (Int.toNat p8_t * 3)) 2) =
                        some (Value.int IntKind.u64 n_2) ∧
                      Call Tryd.prog 43
                        [Value.agg #[Value.int IntKind.i64 n, Value.int IntKind.i64 n_1, Value.int IntKind.u64 n_2],
                          Value.pointer (some p1_f_0)]
                        w fun e w' =>
                        ∃ b,
                          e = Ending.returned (Value.bool b) ∧
                            (b = true → R (Ending.returned (Value.int IntKind.i64 p8_t)) w') ∧
                              (b = false →
                                B42_1
                                  [(0, SV.v (Value.slice p0_s_a p0_s_n p0_s_c)),
                                    (1,
                                      SV.v (Value.func (Fn.func 43) #[] #[Value.pointer (some p1_f_0)])),
                                    (7, SV.v (Value.int IntKind.i64 p7_t)),
                                    (8,
                                      SV.v (Value.int IntKind.i64 (IntKind.wrap IntKind.i64 (p8_t + (1 : Int)))))]
                                  w')) ∧
  (decide (p8_t < p7_t) = false → R (Ending.returned (Value.int IntKind.i64 (-1 : Int))) w)) := by kernel_rfl
/-! davit/spread.Apply$1 -/
def M43 : Mt := { N := 16, keep := [(0, [1, 2]), (1, [3])], ords := [], bk := [], cuts := [], lk := [] }
noncomputable def c43 : Code := bodyOf Tryd.f43
theorem b43 : Tryd.f43.body = some c43 := by kernel_rfl
theorem n43 : Tryd.f43.ntmps = M43.N := by kernel_rfl
set_option maxRecDepth 100000 in
theorem u43 {p0_x_0 : Int} {p0_x_1 : Int} {p0_x_2 : Int} {p1_t : Addr} {w : World} {R : Ending → World → Prop} (h : den Tryd.prog M43 c43 (argE 0 [(Value.agg #[(Value.int IntKind.i64 p0_x_0), (Value.int IntKind.i64 p0_x_1), (Value.int IntKind.u64 p0_x_2)]), (Value.pointer (some p1_t))]) w (retK Tryd.prog Tryd.f43.results.toList R)) : Calls Tryd.prog 43 #[(Value.agg #[(Value.int IntKind.i64 p0_x_0), (Value.int IntKind.i64 p0_x_1), (Value.int IntKind.u64 p0_x_2)]), (Value.pointer (some p1_t))] w R := calls_den okProg Tryd.func43 b43 n43 (Nat.le_of_ble_eq_true rfl) h
theorem t43 (p0_x_0 : Int) (p0_x_1 : Int) (p0_x_2 : Int) (p1_t : Addr) (w : World) (R : Ending → World → Prop) : den Tryd.prog M43 c43 (argE 0 [(Value.agg #[(Value.int IntKind.i64 p0_x_0), (Value.int IntKind.i64 p0_x_1), (Value.int IntKind.u64 p0_x_2)]), (Value.pointer (some p1_t))]) w (retK Tryd.prog Tryd.f43.results.toList R) =
(New w [Value.int IntKind.i64 p0_x_0, Value.int IntKind.i64 p0_x_1, Value.int IntKind.u64 p0_x_2] 59
  fun p w' =>
  ∃ n,
    World.cell? w' (Addr.add p 0) = some (Value.int IntKind.i64 n) ∧
      ∃ n_1,
        World.cell? w' (Addr.add p1_t 0) = some (Value.int IntKind.i64 n_1) ∧
          ((n == n_1) = true →
              ∃ n,
                World.cell? w' (Addr.add p 1) = some (Value.int IntKind.i64 n) ∧
                  ∃ n_2,
                    World.cell? w' (Addr.add p1_t 1) = some (Value.int IntKind.i64 n_2) ∧
                      R (Ending.returned (Value.bool (n == n_2))) w') ∧
            ((n == n_1) = false → R (Ending.returned (Value.bool false)) w')) := by kernel_rfl
/-! davit/mask.one -/
def M44 : Mt := { N := 11, keep := [(0, [0]), (1, [0, 8]), (2, [2]), (3, [2])], ords := [], bk := [], cuts := [], lk := [] }
noncomputable def c44 : Code := bodyOf Tryd.f44
theorem b44 : Tryd.f44.body = some c44 := by kernel_rfl
theorem n44 : Tryd.f44.ntmps = M44.N := by kernel_rfl
set_option maxRecDepth 100000 in
theorem u44 {p0_cpu : Int} {w : World} {R : Ending → World → Prop} (h : den Tryd.prog M44 c44 (argE 0 [(Value.int IntKind.i64 p0_cpu)]) w (retK Tryd.prog Tryd.f44.results.toList R)) : Calls Tryd.prog 44 #[(Value.int IntKind.i64 p0_cpu)] w R := calls_den okProg Tryd.func44 b44 n44 (Nat.le_of_ble_eq_true rfl) h
theorem t44 (p0_cpu : Int) (w : World) (R : Ending → World → Prop) : den Tryd.prog M44 c44 (argE 0 [(Value.int IntKind.i64 p0_cpu)]) w (retK Tryd.prog Tryd.f44.results.toList R) =
((decide (p0_cpu < (0 : Int)) = false →
    (decide (p0_cpu ≥ (64 : Int)) = true → R (Ending.returned (Value.int IntKind.u64 0)) w) ∧
      (decide (p0_cpu ≥ (64 : Int)) = false →
        (0 : Int) ≤ p0_cpu ∧ R (Ending.returned (Value.int IntKind.u64 (shlOp IntKind.u64 (1 : Int) p0_cpu))) w)) ∧
  (decide (p0_cpu < (0 : Int)) = true → R (Ending.returned (Value.int IntKind.u64 0)) w)) := by kernel_rfl
/-! (davit/mask.Mask).Within -/
def M45 : Mt := { N := 9, keep := [(0, [0, 1]), (1, [4])], ords := [], bk := [], cuts := [], lk := [] }
noncomputable def c45 : Code := bodyOf Tryd.f45
theorem b45 : Tryd.f45.body = some c45 := by kernel_rfl
theorem n45 : Tryd.f45.ntmps = M45.N := by kernel_rfl
set_option maxRecDepth 100000 in
theorem u45 {p0_m : Int} {p1_o : Int} {w : World} {R : Ending → World → Prop} (h : den Tryd.prog M45 c45 (argE 0 [(Value.int IntKind.u64 p0_m), (Value.int IntKind.u64 p1_o)]) w (retK Tryd.prog Tryd.f45.results.toList R)) : Calls Tryd.prog 45 #[(Value.int IntKind.u64 p0_m), (Value.int IntKind.u64 p1_o)] w R := calls_den okProg Tryd.func45 b45 n45 (Nat.le_of_ble_eq_true rfl) h
theorem t45 (p0_m : Int) (p1_o : Int) (w : World) (R : Ending → World → Prop) : den Tryd.prog M45 c45 (argE 0 [(Value.int IntKind.u64 p0_m), (Value.int IntKind.u64 p1_o)]) w (retK Tryd.prog Tryd.f45.results.toList R) =
(R (Ending.returned (Value.bool (bitsOp BinOp.andNot IntKind.u64 p0_m p1_o == (0 : Int)))) w) := by kernel_rfl
/-! davit/mask.Upto -/
def M46 : Mt := { N := 12, keep := [(0, [0]), (1, [0, 3]), (2, [2]), (3, [0, 6]), (4, [2]), (5, [2])], ords := [], bk := [(0, [0])], cuts := [], lk := [] }
noncomputable def c46 : Code := bodyOf Tryd.f46
theorem b46 : Tryd.f46.body = some c46 := by kernel_rfl
theorem n46 : Tryd.f46.ntmps = M46.N := by kernel_rfl
set_option maxRecDepth 100000 in
theorem u46 {p0_n : Int} {w : World} {R : Ending → World → Prop} (h : den Tryd.prog M46 c46 (argE 0 [(Value.int IntKind.i64 p0_n)]) w (retK Tryd.prog Tryd.f46.results.toList R)) : Calls Tryd.prog 46 #[(Value.int IntKind.i64 p0_n)] w R := calls_den okProg Tryd.func46 b46 n46 (Nat.le_of_ble_eq_true rfl) h
theorem t46 (p0_n : Int) (w : World) (R : Ending → World → Prop) : den Tryd.prog M46 c46 (argE 0 [(Value.int IntKind.i64 p0_n)]) w (retK Tryd.prog Tryd.f46.results.toList R) =
((decide (p0_n ≤ (0 : Int)) = true → R (Ending.returned (Value.int IntKind.u64 0)) w) ∧
  (decide (p0_n ≤ (0 : Int)) = false →
    (decide (p0_n ≥ (64 : Int)) = true →
        R (Ending.returned (Value.int IntKind.u64 18446744073709551615)) w) ∧
      (decide (p0_n ≥ (64 : Int)) = false →
        Call Tryd.prog 44 [Value.int IntKind.i64 p0_n] w fun e w' =>
          ∃ n,
            e = Ending.returned (Value.int IntKind.u64 n) ∧
              R (Ending.returned (Value.int IntKind.u64 (IntKind.wrap IntKind.u64 (n - (1 : Int))))) w'))) := by kernel_rfl
/-! (davit/mask.Mask).List -/
def M47 : Mt := { N := 16, keep := [(0, [0]), (1, [0, 3]), (2, [0, 3, 5]), (3, [0, 3]), (4, [0, 3]), (5, [2])], ords := [], bk := [(0, [3]), (1, [0, 3])], cuts := [], lk := [(2, [0, 3])] }
noncomputable def c47 : Code := bodyOf Tryd.f47
noncomputable def c47_0 : Code := c47.sr.sr.sr
noncomputable def c47_1 : Code := c47.sr.sr.sl.sl.sl
def e47_1 (p0_m : Int) (p3_l_a : Option Addr) (p3_l_n : Nat) (p3_l_c : Nat) : Env := [(0, SV.v (Value.int IntKind.u64 p0_m)), (3, SV.v (Value.slice p3_l_a p3_l_n p3_l_c))]
def k47_1 (R : Ending → World → Prop) : Cont := blockK 0 [3] (seqK (fun E w => cutB (findL M47.cuts (headReg c47_0)) Tryd.prog M47 c47_0 E w (retK Tryd.prog Tryd.f47.results.toList R) fun E => den Tryd.prog M47 c47_0 E w (retK Tryd.prog Tryd.f47.results.toList R)) (retK Tryd.prog Tryd.f47.results.toList R))
theorem b47 : Tryd.f47.body = some c47 := by kernel_rfl
theorem n47 : Tryd.f47.ntmps = M47.N := by kernel_rfl
set_option maxRecDepth 100000 in
theorem u47 {p0_m : Int} {w : World} {R : Ending → World → Prop} (h : den Tryd.prog M47 c47 (argE 0 [(Value.int IntKind.u64 p0_m)]) w (retK Tryd.prog Tryd.f47.results.toList R)) : Calls Tryd.prog 47 #[(Value.int IntKind.u64 p0_m)] w R := calls_den okProg Tryd.func47 b47 n47 (Nat.le_of_ble_eq_true rfl) h
theorem t47 (p0_m : Int) (w : World) (R : Ending → World → Prop) : den Tryd.prog M47 c47 (argE 0 [(Value.int IntKind.u64 p0_m)]) w (retK Tryd.prog Tryd.f47.results.toList R) =
(Cut (WP Tryd.prog 16 (Code.loop c47_1) (e47_1 p0_m none 0 0) w (k47_1 R))) := by kernel_rfl
theorem t47_1 (p0_m : Int) (p3_l_a : Option Addr) (p3_l_n : Nat) (p3_l_c : Nat) (w : World) (B47_1 : Env → World → Prop) (R : Ending → World → Prop) : den Tryd.prog M47 c47_1 (e47_1 p0_m p3_l_a p3_l_n p3_l_c) w (loopK B47_1 (k47_1 R)) =
(((p0_m != (0 : Int)) = true →
    Call Tryd.prog 51 [Value.int IntKind.u64 p0_m] w fun e w' =>
      ∃ n,
        e = Ending.returned (Value.int IntKind.i64 n) ∧
          New w' [Value.int IntKind.i64 n] 3 fun p w' =>
            ∃ p_1 n c w'_1,
              Sem.run Tryd.prog
                    (Builtin.append_ #[23, 23] 23
                      #[Value.slice p3_l_a p3_l_n p3_l_c, Value.slice (some p) 1 1])
                    w' =
                  Result.ok (Value.slice p_1 n c) w'_1 ∧
                B47_1
                  [(0,
                      SV.v
                        (Value.int IntKind.u64
                          (bitsOp BinOp.and IntKind.u64 p0_m (IntKind.wrap IntKind.u64 (p0_m - (1 : Int)))))),
                    (3, SV.v (Value.slice p_1 n c))]
                  w'_1) ∧
  ((p0_m != (0 : Int)) = false → R (Ending.returned (Value.slice p3_l_a p3_l_n p3_l_c)) w)) := by kernel_rfl
/-! davit/davitref01.Of -/
def M49 : Mt := { N := 18, keep := [(0, [0]), (1, [0, 3]), (2, [0, 3, 4]), (3, [0, 3, 4, 8]), (4, [0, 3, 4]), (5, [0, 3, 4]), (6, [2])], ords := [], bk := [(0, [3]), (1, [0, 3, 4])], cuts := [], lk := [(3, [0, 3, 4])] }
noncomputable def c49 : Code := bodyOf Tryd.f49
noncomputable def c49_0 : Code := c49.sr.sr.sr
noncomputable def c49_1 : Code := c49.sr.sr.sl.sr.sl.sl
def e49_1 (p0_l_a : Option Addr) (p0_l_n : Nat) (p0_l_c : Nat) (p3_m : Int) (p4_i : Int) : Env := [(0, SV.v (Value.slice p0_l_a p0_l_n p0_l_c)), (3, SV.v (Value.int IntKind.u64 p3_m)), (4, SV.v (Value.int IntKind.i64 p4_i))]
def k49_1 (R : Ending → World → Prop) : Cont := blockK 0 [3] (seqK (fun E w => cutB (findL M49.cuts (headReg c49_0)) Tryd.prog M49 c49_0 E w (retK Tryd.prog Tryd.f49.results.toList R) fun E => den Tryd.prog M49 c49_0 E w (retK Tryd.prog Tryd.f49.results.toList R)) (retK Tryd.prog Tryd.f49.results.toList R))
theorem b49 : Tryd.f49.body = some c49 := by kernel_rfl
theorem n49 : Tryd.f49.ntmps = M49.N := by kernel_rfl
set_option maxRecDepth 100000 in
theorem u49 {p0_l_a : Option Addr} {p0_l_n : Nat} {p0_l_c : Nat} {w : World} {R : Ending → World → Prop} (h : den Tryd.prog M49 c49 (argE 0 [(Value.slice p0_l_a p0_l_n p0_l_c)]) w (retK Tryd.prog Tryd.f49.results.toList R)) : Calls Tryd.prog 49 #[(Value.slice p0_l_a p0_l_n p0_l_c)] w R := calls_den okProg Tryd.func49 b49 n49 (Nat.le_of_ble_eq_true rfl) h
theorem t49 (p0_l_a : Option Addr) (p0_l_n : Nat) (p0_l_c : Nat) (w : World) (R : Ending → World → Prop) : den Tryd.prog M49 c49 (argE 0 [(Value.slice p0_l_a p0_l_n p0_l_c)]) w (retK Tryd.prog Tryd.f49.results.toList R) =
(Cut (WP Tryd.prog 18 (Code.loop c49_1) (e49_1 p0_l_a p0_l_n p0_l_c (0 : Int) (0 : Int)) w (k49_1 R))) := by kernel_rfl
theorem t49_1 (p0_l_a : Option Addr) (p0_l_n : Nat) (p0_l_c : Nat) (p3_m : Int) (p4_i : Int) (w : World) (B49_1 : Env → World → Prop) (R : Ending → World → Prop) : den Tryd.prog M49 c49_1 (e49_1 p0_l_a p0_l_n p0_l_c p3_m p4_i) w (loopK B49_1 (k49_1 R)) =
((decide (p4_i < (↑p0_l_n : Int)) = true →
    ((0 : Int) ≤ p4_i ∧ p4_i < (↑p0_l_n : Int)) ∧
      ∃ a,
        p0_l_a = some a ∧
          ∃ n,
            World.cell? w (Addr.add a (Int.toNat p4_i * 1)) = some (Value.int IntKind.i64 n) ∧
              Call Tryd.prog 50 [Value.int IntKind.u64 p3_m, Value.int IntKind.i64 n] w fun e w' =>
                ∃ n,
                  e = Ending.returned (Value.int IntKind.u64 n) ∧
                    B49_1
                      [(0, SV.v (Value.slice p0_l_a p0_l_n p0_l_c)),
                        (3, SV.v (Value.int IntKind.u64 n)),
                        (4, SV.v (Value.int IntKind.i64 (IntKind.wrap IntKind.i64 (p4_i + (1 : Int)))))]
                      w') ∧
  (decide (p4_i < (↑p0_l_n : Int)) = false → R (Ending.returned (Value.int IntKind.u64 p3_m)) w)) := by kernel_rfl
/-! davit/davitref01.With -/
def M50 : Mt := { N := 22, keep := [(0, [0, 1]), (1, [0, 1, 15]), (2, [4]), (3, [4])], ords := [], bk := [], cuts := [], lk := [] }
noncomputable def c50 : Code := bodyOf Tryd.f50
theorem b50 : Tryd.f50.body = some c50 := by kernel_rfl
theorem n50 : Tryd.f50.ntmps = M50.N := by kernel_rfl
set_option maxRecDepth 100000 in
theorem u50 {p0_m : Int} {p1_cpu : Int} {w : World} {R : Ending → World → Prop} (h : den Tryd.prog M50 c50 (argE 0 [(Value.int IntKind.u64 p0_m), (Value.int IntKind.i64 p1_cpu)]) w (retK Tryd.prog Tryd.f50.results.toList R)) : Calls Tryd.prog 50 #[(Value.int IntKind.u64 p0_m), (Value.int IntKind.i64 p1_cpu)] w R := calls_den okProg Tryd.func50 b50 n50 (Nat.le_of_ble_eq_true rfl) h
theorem t50 (p0_m : Int) (p1_cpu : Int) (w : World) (R : Ending → World → Prop) : den Tryd.prog M50 c50 (argE 0 [(Value.int IntKind.u64 p0_m), (Value.int IntKind.i64 p1_cpu)]) w (retK Tryd.prog Tryd.f50.results.toList R) =
((decide (p1_cpu < (0 : Int)) = false →
    (decide (p1_cpu > (63 : Int)) = false →
        Call Tryd.prog 31 [Value.int IntKind.u64 p0_m, Value.int IntKind.i64 p1_cpu] w fun e w' =>
          ∃ b,
            e = Ending.returned (Value.bool b) ∧
              (b = true → R (Ending.returned (Value.int IntKind.u64 p0_m)) w') ∧
                (b = false →
                  (0 : Int) ≤ IntKind.wrap IntKind.u64 p1_cpu ∧
                    R
                      (Ending.returned
                        (Value.int IntKind.u64
                          (IntKind.wrap IntKind.u64
                            (p0_m + shlOp IntKind.u64 (1 : Int) (IntKind.wrap IntKind.u64 p1_cpu)))))
                      w')) ∧
      (decide (p1_cpu > (63 : Int)) = true → R (Ending.returned (Value.int IntKind.u64 p0_m)) w)) ∧
  (decide (p1_cpu < (0 : Int)) = true → R (Ending.returned (Value.int IntKind.u64 p0_m)) w)) := by kernel_rfl
/-! math/bits.TrailingZeros64 -/
def M51 : Mt := { N := 14, keep := [(0, [0]), (1, [0, 4]), (2, [2]), (3, [2])], ords := [], bk := [], cuts := [], lk := [] }
noncomputable def c51 : Code := bodyOf Tryd.f51
theorem b51 : Tryd.f51.body = some c51 := by kernel_rfl
theorem n51 : Tryd.f51.ntmps = M51.N := by kernel_rfl
set_option maxRecDepth 100000 in
theorem u51 {p0_x : Int} {w : World} {R : Ending → World → Prop} (h : den Tryd.prog M51 c51 (argE 0 [(Value.int IntKind.u64 p0_x)]) w (retK Tryd.prog Tryd.f51.results.toList R)) : Calls Tryd.prog 51 #[(Value.int IntKind.u64 p0_x)] w R := calls_den okProg Tryd.func51 b51 n51 (Nat.le_of_ble_eq_true rfl) h
set_option maxRecDepth 100000 in
theorem t51 (p0_x : Int) (w : World) (R : Ending → World → Prop) : den Tryd.prog M51 c51 (argE 0 [(Value.int IntKind.u64 p0_x)]) w (retK Tryd.prog Tryd.f51.results.toList R) =
(((p0_x == (0 : Int)) = true → R (Ending.returned (Value.int IntKind.i64 64)) w) ∧
  ((p0_x == (0 : Int)) = false → (0 : Int) ≤ (58 : Int) ∧ ((0 : Int) ≤ shrOp IntKind.u64 (IntKind.wrap IntKind.u64 (bitsOp BinOp.and IntKind.u64 p0_x (IntKind.wrap IntKind.u64 (0 - p0_x)) * 285870213051353865)) 58 ∧ shrOp IntKind.u64 (IntKind.wrap IntKind.u64 (bitsOp BinOp.and IntKind.u64 p0_x (IntKind.wrap IntKind.u64 (0 - p0_x)) * 285870213051353865)) 58 < ((64 : Nat) : Int)) ∧
    ∃ n, World.cell? w (Addr.add ⟨0, 0, none⟩ (Int.toNat (shrOp IntKind.u64 (IntKind.wrap IntKind.u64 (bitsOp BinOp.and IntKind.u64 p0_x (IntKind.wrap IntKind.u64 (0 - p0_x)) * 285870213051353865)) 58) * 1)) = some (Value.int IntKind.u8 n) ∧ R (Ending.returned (Value.int IntKind.i64 (IntKind.wrap IntKind.i64 n))) w)) := by kernel_rfl
end Go.Dav
