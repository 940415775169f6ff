/- What functions of the program come to. -/
import Derived.Test.YtjamndjdcfadcaaDoorPrg01
namespace Go.Dav
open Go.Proofs
/-! davit/davitlaw01.MaskMakes -/
def M3 : Mt := { N := 68, keep := [(0, [0, 1, 2]), (1, [0, 1, 2, 12]), (2, [6]), (3, [0, 1, 2, 7]), (4, [0, 1, 2, 7, 8]), (5, [0, 1, 2, 7, 8, 18]), (6, [0, 1, 2, 7, 8]), (7, [0, 1, 2, 7, 8]), (8, [0, 1, 2, 7, 9]), (9, [6])], ords := [], bk := [(0, [0, 1, 2, 7]), (1, [0, 1, 2, 7, 8])], cuts := [(8, [0, 1, 2, 7])], lk := [(5, [0, 1, 2, 7, 8])] }
noncomputable def c3 : Code := bodyOf Tryd.f3
noncomputable def c3_0 : Code := c3.sr.sr.sr.sr
noncomputable def c3_1 : Code := c3.sr.sr.sr.sl.sr.sl.sl
def e3_0 (p0_m : Int) (p1_l_a : Option Addr) (p1_l_n : Nat) (p1_l_c : Nat) (p2_cpu : Int) (p7_want : Int) : Env := [(0, SV.v (Value.int IntKind.u64 p0_m)), (1, SV.v (Value.slice p1_l_a p1_l_n p1_l_c)), (2, SV.v (Value.int IntKind.i64 p2_cpu)), (7, SV.v (Value.int IntKind.u64 p7_want))]
def e3_1 (p0_m : Int) (p1_l_a : Option Addr) (p1_l_n : Nat) (p1_l_c : Nat) (p2_cpu : Int) (p7_want : Int) (p8_i : Int) : Env := [(0, SV.v (Value.int IntKind.u64 p0_m)), (1, SV.v (Value.slice p1_l_a p1_l_n p1_l_c)), (2, SV.v (Value.int IntKind.i64 p2_cpu)), (7, SV.v (Value.int IntKind.u64 p7_want)), (8, SV.v (Value.int IntKind.i64 p8_i))]
def k3_0 (R : Ending → World → Prop) : Cont := retK Tryd.prog Tryd.f3.results.toList R
def k3_1 (R : Ending → World → Prop) : Cont := blockK 0 [0, 1, 2, 7] (seqK (fun E w => cutB (findL M3.cuts (headReg c3_0)) Tryd.prog M3 c3_0 E w (retK Tryd.prog Tryd.f3.results.toList R) fun E => den Tryd.prog M3 c3_0 E w (retK Tryd.prog Tryd.f3.results.toList R)) (retK Tryd.prog Tryd.f3.results.toList R))
theorem b3 : Tryd.f3.body = some c3 := by kernel_rfl
theorem n3 : Tryd.f3.ntmps = M3.N := by kernel_rfl
theorem u3 {p0_m : Int} {p1_l_a : Option Addr} {p1_l_n : Nat} {p1_l_c : Nat} {p2_cpu : Int} {w : World} {R : Ending → World → Prop} (h : den Tryd.prog M3 c3 (argE 0 [(Value.int IntKind.u64 p0_m), (Value.slice p1_l_a p1_l_n p1_l_c), (Value.int IntKind.i64 p2_cpu)]) w (retK Tryd.prog Tryd.f3.results.toList R)) : Calls Tryd.prog 3 #[(Value.int IntKind.u64 p0_m), (Value.slice p1_l_a p1_l_n p1_l_c), (Value.int IntKind.i64 p2_cpu)] w R := calls_den okProg Tryd.func3 b3 n3 (Nat.le_of_ble_eq_true rfl) h
theorem t3 (p0_m : Int) (p1_l_a : Option Addr) (p1_l_n : Nat) (p1_l_c : Nat) (p2_cpu : Int) (w : World) (R : Ending → World → Prop) : den Tryd.prog M3 c3 (argE 0 [(Value.int IntKind.u64 p0_m), (Value.slice p1_l_a p1_l_n p1_l_c), (Value.int IntKind.i64 p2_cpu)]) w (retK Tryd.prog Tryd.f3.results.toList R) =
((decide ((↑p1_l_n : Int) > (200 : Int)) = true →
    Call Tryd.prog 8 [] w fun e w' =>
      ∃ b, e = Ending.returned (Value.bool b) ∧ R (Ending.returned (Value.bool b)) w') ∧
  (decide ((↑p1_l_n : Int) > (200 : Int)) = false →
    Cut
      (WP Tryd.prog 68 (Code.loop c3_1) (e3_1 p0_m p1_l_a p1_l_n p1_l_c p2_cpu p0_m (0 : Int)) w
        (k3_1 R)))) := by kernel_rfl
theorem t3_0 (p0_m : Int) (p1_l_a : Option Addr) (p1_l_n : Nat) (p1_l_c : Nat) (p2_cpu : Int) (p7_want : Int) (w : World) (R : Ending → World → Prop) : den Tryd.prog M3 c3_0 (e3_0 p0_m p1_l_a p1_l_n p1_l_c p2_cpu p7_want) w (k3_0 R) =
(Call Tryd.prog 10 [Value.slice p1_l_a p1_l_n p1_l_c] w fun e w' =>
  ∃ n,
    e = Ending.returned (Value.int IntKind.u64 n) ∧
      Call Tryd.prog 11 [Value.slice p1_l_a p1_l_n p1_l_c] w' fun e w' =>
        ∃ n_1,
          e = Ending.returned (Value.int IntKind.u64 n_1) ∧
            ((n == n_1) = true →
                Call Tryd.prog 12 [Value.int IntKind.i64 p2_cpu] w' fun e w' =>
                  ∃ n,
                    e = Ending.returned (Value.int IntKind.u64 n) ∧
                      Call Tryd.prog 13 [Value.int IntKind.i64 p2_cpu] w' fun e w' =>
                        ∃ n_2,
                          e = Ending.returned (Value.int IntKind.u64 n_2) ∧
                            ((n == n_2) = true →
                                Call Tryd.prog 14
                                  [Value.int IntKind.u64 p0_m, Value.slice p1_l_a p1_l_n p1_l_c] w' fun e w' =>
                                  ∃ n,
                                    e = Ending.returned (Value.int IntKind.u64 n) ∧
                                      ((n == p7_want) = true →
                                          Call Tryd.prog 15
                                            [Value.int IntKind.u64 p0_m, Value.int IntKind.i64 p2_cpu] w' fun e w' =>
                                            ∃ n,
                                              e = Ending.returned (Value.int IntKind.u64 n) ∧
                                                Call Tryd.prog 16
                                                  [Value.int IntKind.u64 p0_m, Value.int IntKind.i64 p2_cpu] w'
                                                  fun e w' =>
                                                  ∃ n_3,
                                                    e = Ending.returned (Value.int IntKind.u64 n_3) ∧
                                                      ((n == n_3) = true →
                                                          Call Tryd.prog 17
                                                            [Value.int IntKind.u64 p0_m, Value.int IntKind.i64 p2_cpu]
                                                            w' fun e w' =>
                                                            ∃ b,
                                                              e = Ending.returned (Value.bool b) ∧
                                                                Call Tryd.prog 18
                                                                  [Value.int IntKind.u64 p0_m,
                                                                    Value.int IntKind.i64 p2_cpu]
                                                                  w' fun e w' =>
                                                                  ∃ b_1,
                                                                    e = Ending.returned (Value.bool b_1) ∧
                                                                      ((b == b_1) = true →
                                                                          Call Tryd.prog 8 [] w' fun e w' =>
                                                                            ∃ b,
                                                                              e = Ending.returned (Value.bool b) ∧
                                                                                R (Ending.returned (Value.bool b))
                                                                                  w') ∧
                                                                        ((b == b_1) = false →
                                                                          R (Ending.returned (Value.bool false)) w')) ∧
                                                        ((n == n_3) = false →
                                                          R (Ending.returned (Value.bool false)) w')) ∧
                                        ((n == p7_want) = false → R (Ending.returned (Value.bool false)) w')) ∧
                              ((n == n_2) = false → R (Ending.returned (Value.bool false)) w')) ∧
              ((n == n_1) = false → R (Ending.returned (Value.bool false)) w')) := by kernel_rfl
theorem t3_1 (p0_m : Int) (p1_l_a : Option Addr) (p1_l_n : Nat) (p1_l_c : Nat) (p2_cpu : Int) (p7_want : Int) (p8_i : Int) (w : World) (B3_1 : Env → World → Prop) (R : Ending → World → Prop) : den Tryd.prog M3 c3_1 (e3_1 p0_m p1_l_a p1_l_n p1_l_c p2_cpu p7_want p8_i) w (loopK B3_1 (k3_1 R)) =
((decide (p8_i < (↑p1_l_n : Int)) = true →
    ((0 : Int) ≤ p8_i ∧ p8_i < (↑p1_l_n : Int)) ∧
      ∃ a,
        p1_l_a = some a ∧
          ∃ n,
            World.cell? w (Addr.add a (Int.toNat p8_i * 1)) = some (Value.int IntKind.i64 n) ∧
              Call Tryd.prog 9 [Value.int IntKind.u64 p7_want, Value.int IntKind.i64 n] w fun e w' =>
                ∃ n,
                  e = Ending.returned (Value.int IntKind.u64 n) ∧
                    B3_1
                      [(0, SV.v (Value.int IntKind.u64 p0_m)),
                        (1, SV.v (Value.slice p1_l_a p1_l_n p1_l_c)),
                        (2, SV.v (Value.int IntKind.i64 p2_cpu)), (7, SV.v (Value.int IntKind.u64 n)),
                        (8, SV.v (Value.int IntKind.i64 (IntKind.wrap IntKind.i64 (p8_i + (1 : Int)))))]
                      w') ∧
  (decide (p8_i < (↑p1_l_n : Int)) = false →
    CutD Tryd.prog M3 c3_0 (e3_0 p0_m p1_l_a p1_l_n p1_l_c p2_cpu p7_want) w (k3_0 R))) := by kernel_rfl
/-! davit/davitlaw01.MaskParts -/
def M4 : Mt := { N := 47, keep := [(0, [0, 1]), (1, [0, 1, 5]), (2, [0, 1, 5, 6]), (3, [4])], ords := [], bk := [], cuts := [], lk := [] }
noncomputable def c4 : Code := bodyOf Tryd.f4
theorem b4 : Tryd.f4.body = some c4 := by kernel_rfl
theorem n4 : Tryd.f4.ntmps = M4.N := by kernel_rfl
theorem u4 {p0_a : Int} {p1_b : Int} {w : World} {R : Ending → World → Prop} (h : den Tryd.prog M4 c4 (argE 0 [(Value.int IntKind.u64 p0_a), (Value.int IntKind.u64 p1_b)]) w (retK Tryd.prog Tryd.f4.results.toList R)) : Calls Tryd.prog 4 #[(Value.int IntKind.u64 p0_a), (Value.int IntKind.u64 p1_b)] w R := calls_den okProg Tryd.func4 b4 n4 (Nat.le_of_ble_eq_true rfl) h
theorem t4 (p0_a : Int) (p1_b : Int) (w : World) (R : Ending → World → Prop) : den Tryd.prog M4 c4 (argE 0 [(Value.int IntKind.u64 p0_a), (Value.int IntKind.u64 p1_b)]) w (retK Tryd.prog Tryd.f4.results.toList R) =
(Call Tryd.prog 19 [Value.int IntKind.u64 p0_a, Value.int IntKind.u64 p1_b] w fun e w' =>
  ∃ n,
    e = Ending.returned (Value.int IntKind.u64 n) ∧
      Call Tryd.prog 20 [Value.int IntKind.u64 p0_a, Value.int IntKind.u64 p1_b] w' fun e w' =>
        ∃ n_1,
          e = Ending.returned (Value.int IntKind.u64 n_1) ∧
            ((n == n_1) = true →
                Call Tryd.prog 21 [Value.int IntKind.u64 p0_a, Value.int IntKind.u64 p1_b] w' fun e w' =>
                  ∃ n,
                    e = Ending.returned (Value.int IntKind.u64 n) ∧
                      Call Tryd.prog 22 [Value.int IntKind.u64 p0_a, Value.int IntKind.u64 p1_b] w'
                        fun e w' =>
                        ∃ n_2,
                          e = Ending.returned (Value.int IntKind.u64 n_2) ∧
                            ((n == n_2) = true →
                                Call Tryd.prog 23 [Value.int IntKind.u64 p0_a, Value.int IntKind.u64 p1_b] w'
                                  fun e w' =>
                                  ∃ n,
                                    e = Ending.returned (Value.int IntKind.u64 n) ∧
                                      Call Tryd.prog 24
                                        [Value.int IntKind.u64 p0_a, Value.int IntKind.u64 p1_b] w' fun e w' =>
                                        ∃ n_3,
                                          e = Ending.returned (Value.int IntKind.u64 n_3) ∧
                                            ((n == n_3) = true →
                                                Call Tryd.prog 25
                                                  [Value.int IntKind.u64 p0_a, Value.int IntKind.u64 p1_b] w'
                                                  fun e w' =>
                                                  ∃ b,
                                                    e = Ending.returned (Value.bool b) ∧
                                                      Call Tryd.prog 24
                                                        [Value.int IntKind.u64 p0_a, Value.int IntKind.u64 p1_b] w'
                                                        fun e w' =>
                                                        ∃ n,
                                                          e = Ending.returned (Value.int IntKind.u64 n) ∧
                                                            ((b == (n == (0 : Int))) = true →
                                                                Call Tryd.prog 8 [] w' fun e w' =>
                                                                  ∃ b,
                                                                    e = Ending.returned (Value.bool b) ∧
                                                                      R (Ending.returned (Value.bool b)) w') ∧
                                                              ((b == (n == (0 : Int))) = false →
                                                                R (Ending.returned (Value.bool false)) w')) ∧
                                              ((n == n_3) = false → R (Ending.returned (Value.bool false)) w')) ∧
                              ((n == n_2) = false → R (Ending.returned (Value.bool false)) w')) ∧
              ((n == n_1) = false → R (Ending.returned (Value.bool false)) w')) := by kernel_rfl
/-! davit/davitlaw01.MaskRound -/
def M5 : Mt := { N := 49, keep := [(0, [0, 1]), (1, [1, 5]), (2, [1, 5, 6]), (3, [5, 6, 7]), (4, [5, 6, 7, 8]), (5, [5, 6, 7, 8, 16]), (6, [5, 6, 7, 8]), (7, [5, 6, 8, 9, 10]), (8, [5, 6, 8, 9, 37]), (9, [4]), (10, [5, 6, 8, 9]), (11, [5, 6, 7, 8]), (12, [4])], ords := [], bk := [(0, [5, 6]), (1, [5, 6, 7, 8])], cuts := [(12, [5, 6])], lk := [(5, [5, 6, 7, 8])] }
noncomputable def c5 : Code := bodyOf Tryd.f5
noncomputable def c5_0 : Code := c5.sr.sr.sr.sr.sr
noncomputable def c5_1 : Code := c5.sr.sr.sr.sr.sl.sr.sl.sl
def e5_0 (p5_x : Int) (p6_seen : Int) : Env := [(5, SV.v (Value.int IntKind.u64 p5_x)), (6, SV.v (Value.int IntKind.u64 p6_seen))]
def e5_1 (p5_x : Int) (p6_seen : Int) (p7_at : Int) (p8_i : Int) : Env := [(5, SV.v (Value.int IntKind.u64 p5_x)), (6, SV.v (Value.int IntKind.u64 p6_seen)), (7, SV.v (Value.int IntKind.i64 p7_at)), (8, SV.v (Value.int IntKind.i64 p8_i))]
def k5_0 (R : Ending → World → Prop) : Cont := retK Tryd.prog Tryd.f5.results.toList R
def k5_1 (R : Ending → World → Prop) : Cont := blockK 0 [5, 6] (seqK (fun E w => cutB (findL M5.cuts (headReg c5_0)) Tryd.prog M5 c5_0 E w (retK Tryd.prog Tryd.f5.results.toList R) fun E => den Tryd.prog M5 c5_0 E w (retK Tryd.prog Tryd.f5.results.toList R)) (retK Tryd.prog Tryd.f5.results.toList R))
theorem b5 : Tryd.f5.body = some c5 := by kernel_rfl
theorem n5 : Tryd.f5.ntmps = M5.N := by kernel_rfl
theorem u5 {p0_m : Int} {p1_from : Int} {w : World} {R : Ending → World → Prop} (h : den Tryd.prog M5 c5 (argE 0 [(Value.int IntKind.u64 p0_m), (Value.int IntKind.i64 p1_from)]) w (retK Tryd.prog Tryd.f5.results.toList R)) : Calls Tryd.prog 5 #[(Value.int IntKind.u64 p0_m), (Value.int IntKind.i64 p1_from)] w R := calls_den okProg Tryd.func5 b5 n5 (Nat.le_of_ble_eq_true rfl) h
theorem t5 (p0_m : Int) (p1_from : Int) (w : World) (R : Ending → World → Prop) : den Tryd.prog M5 c5 (argE 0 [(Value.int IntKind.u64 p0_m), (Value.int IntKind.i64 p1_from)]) w (retK Tryd.prog Tryd.f5.results.toList R) =
(Cut (WP Tryd.prog 49 (Code.loop c5_1) (e5_1 p0_m (0 : Int) p1_from (0 : Int)) w (k5_1 R))) := by kernel_rfl
theorem t5_0 (p5_x : Int) (p6_seen : Int) (w : World) (R : Ending → World → Prop) : den Tryd.prog M5 c5_0 (e5_0 p5_x p6_seen) w (k5_0 R) =
(((p6_seen == p5_x) = true →
    Call Tryd.prog 8 [] w fun e w' =>
      ∃ b, e = Ending.returned (Value.bool b) ∧ R (Ending.returned (Value.bool b)) w') ∧
  ((p6_seen == p5_x) = false → R (Ending.returned (Value.bool false)) w)) := by kernel_rfl
theorem t5_1 (p5_x : Int) (p6_seen : Int) (p7_at : Int) (p8_i : Int) (w : World) (B5_1 : Env → World → Prop) (R : Ending → World → Prop) : den Tryd.prog M5 c5_1 (e5_1 p5_x p6_seen p7_at p8_i) w (loopK B5_1 (k5_1 R)) =
(Call Tryd.prog 26 [Value.int IntKind.u64 p5_x] w fun e w' =>
  ∃ n,
    e = Ending.returned (Value.int IntKind.i64 n) ∧
      (decide (p8_i < n) = true →
          Call Tryd.prog 27 [Value.int IntKind.u64 p5_x, Value.int IntKind.i64 p7_at] w' fun e w' =>
            ∃ n n_1,
              e = Ending.returned (Value.tuple #[Value.int IntKind.i64 n, Value.int IntKind.i64 n_1]) ∧
                ((n_1 != (0 : Int)) = false →
                    Call Tryd.prog 17 [Value.int IntKind.u64 p6_seen, Value.int IntKind.i64 n] w' fun e w' =>
                      ∃ b,
                        e = Ending.returned (Value.bool b) ∧
                          (b = false →
                              Call Tryd.prog 17 [Value.int IntKind.u64 p5_x, Value.int IntKind.i64 n] w'
                                fun e w' =>
                                ∃ b,
                                  e = Ending.returned (Value.bool b) ∧
                                    ((!b) = true → R (Ending.returned (Value.bool false)) w') ∧
                                      ((!b) = false →
                                        New w' [Value.int IntKind.i64 n] 3 fun p w' =>
                                          Call Tryd.prog 14
                                            [Value.int IntKind.u64 p6_seen, Value.slice (some p) 1 1]
                                            w' fun e w' =>
                                            ∃ n_2,
                                              e = Ending.returned (Value.int IntKind.u64 n_2) ∧
                                                B5_1
                                                  [(5, SV.v (Value.int IntKind.u64 p5_x)),
                                                    (6, SV.v (Value.int IntKind.u64 n_2)),
                                                    (7, SV.v (Value.int IntKind.i64 n)),
                                                    (8,
                                                      SV.v
                                                        (Value.int IntKind.i64
                                                          (IntKind.wrap IntKind.i64 (p8_i + (1 : Int)))))]
                                                  w')) ∧
                            (b = true → R (Ending.returned (Value.bool false)) w')) ∧
                  ((n_1 != (0 : Int)) = true → R (Ending.returned (Value.bool false)) w')) ∧
        (decide (p8_i < n) = false → CutD Tryd.prog M5 c5_0 (e5_0 p5_x p6_seen) w' (k5_0 R))) := by kernel_rfl
/-! davit/davitlaw01.MaskSums -/
def M6 : Mt := { N := 41, keep := [(0, [0, 1]), (1, [1, 5]), (2, [5, 6]), (3, [4])], ords := [], bk := [], cuts := [], lk := [] }
noncomputable def c6 : Code := bodyOf Tryd.f6
theorem b6 : Tryd.f6.body = some c6 := by kernel_rfl
theorem n6 : Tryd.f6.ntmps = M6.N := by kernel_rfl
theorem u6 {p0_a : Int} {p1_b : Int} {w : World} {R : Ending → World → Prop} (h : den Tryd.prog M6 c6 (argE 0 [(Value.int IntKind.u64 p0_a), (Value.int IntKind.u64 p1_b)]) w (retK Tryd.prog Tryd.f6.results.toList R)) : Calls Tryd.prog 6 #[(Value.int IntKind.u64 p0_a), (Value.int IntKind.u64 p1_b)] w R := calls_den okProg Tryd.func6 b6 n6 (Nat.le_of_ble_eq_true rfl) h
theorem t6 (p0_a : Int) (p1_b : Int) (w : World) (R : Ending → World → Prop) : den Tryd.prog M6 c6 (argE 0 [(Value.int IntKind.u64 p0_a), (Value.int IntKind.u64 p1_b)]) w (retK Tryd.prog Tryd.f6.results.toList R) =
(Call Tryd.prog 21 [Value.int IntKind.u64 p0_a, Value.int IntKind.u64 p1_b] w fun e w' =>
  ∃ n,
    e = Ending.returned (Value.int IntKind.u64 n) ∧
      Call Tryd.prog 26 [Value.int IntKind.u64 n] w' fun e w' =>
        ∃ n,
          e = Ending.returned (Value.int IntKind.i64 n) ∧
            Call Tryd.prog 26 [Value.int IntKind.u64 p0_a] w' fun e w' =>
              ∃ n_1,
                e = Ending.returned (Value.int IntKind.i64 n_1) ∧
                  Call Tryd.prog 26 [Value.int IntKind.u64 p1_b] w' fun e w' =>
                    ∃ n_2,
                      e = Ending.returned (Value.int IntKind.i64 n_2) ∧
                        Call Tryd.prog 19 [Value.int IntKind.u64 p0_a, Value.int IntKind.u64 p1_b] w'
                          fun e w' =>
                          ∃ n_3,
                            e = Ending.returned (Value.int IntKind.u64 n_3) ∧
                              Call Tryd.prog 26 [Value.int IntKind.u64 n_3] w' fun e w' =>
                                ∃ n_4,
                                  e = Ending.returned (Value.int IntKind.i64 n_4) ∧
                                    ((n == IntKind.wrap IntKind.i64 (IntKind.wrap IntKind.i64 (n_1 + n_2) - n_4)) =
                                          true →
                                        Call Tryd.prog 23
                                          [Value.int IntKind.u64 p0_a, Value.int IntKind.u64 p1_b] w' fun e w' =>
                                          ∃ n,
                                            e = Ending.returned (Value.int IntKind.u64 n) ∧
                                              Call Tryd.prog 26 [Value.int IntKind.u64 n] w' fun e w' =>
                                                ∃ n,
                                                  e = Ending.returned (Value.int IntKind.i64 n) ∧
                                                    Call Tryd.prog 26 [Value.int IntKind.u64 p0_a] w'
                                                      fun e w' =>
                                                      ∃ n_5,
                                                        e = Ending.returned (Value.int IntKind.i64 n_5) ∧
                                                          Call Tryd.prog 19
                                                            [Value.int IntKind.u64 p0_a, Value.int IntKind.u64 p1_b]
                                                            w' fun e w' =>
                                                            ∃ n_6,
                                                              e = Ending.returned (Value.int IntKind.u64 n_6) ∧
                                                                Call Tryd.prog 26 [Value.int IntKind.u64 n_6] w'
                                                                  fun e w' =>
                                                                  ∃ n_7,
                                                                    e = Ending.returned (Value.int IntKind.i64 n_7) ∧
                                                                      ((n == IntKind.wrap IntKind.i64 (n_5 - n_7)) =
                                                                            true →
                                                                          Call Tryd.prog 8 [] w' fun e w' =>
                                                                            ∃ b,
                                                                              e = Ending.returned (Value.bool b) ∧
                                                                                R (Ending.returned (Value.bool b))
                                                                                  w') ∧
                                                                        ((n == IntKind.wrap IntKind.i64 (n_5 - n_7)) =
                                                                            false →
                                                                          R (Ending.returned (Value.bool false)) w')) ∧
                                      ((n == IntKind.wrap IntKind.i64 (IntKind.wrap IntKind.i64 (n_1 + n_2) - n_4)) =
                                          false →
                                        R (Ending.returned (Value.bool false)) w')) := by kernel_rfl
/-! davit/davitlaw01.MaskLists -/
def M7 : Mt := { N := 104, keep := [(0, [0, 1]), (1, [0, 1, 5]), (2, [0, 1, 5, 6, 7]), (3, [0, 1, 5, 6, 7, 8, 9]), (4, [0, 1, 5, 6, 7, 8, 9, 10, 11]), (5, [0, 1, 5, 6, 7, 8, 9, 10, 11, 12, 13]), (6, [0, 1, 5, 6, 7, 8, 9, 10, 11, 12, 13, 14, 15]), (7, [0, 5, 6, 7, 8, 9, 10, 11, 12, 13, 14, 15, 16, 17]), (8, [0, 5, 6, 7, 8, 9, 10, 11, 12, 13, 14, 15, 16, 17, 18]), (9, [4])], ords := [], bk := [], cuts := [], lk := [] }
noncomputable def c7 : Code := bodyOf Tryd.f7
theorem b7 : Tryd.f7.body = some c7 := by kernel_rfl
theorem n7 : Tryd.f7.ntmps = M7.N := by kernel_rfl
theorem u7 {p0_m : Int} {p1_cpu : Int} {w : World} {R : Ending → World → Prop} (h : den Tryd.prog M7 c7 (argE 0 [(Value.int IntKind.u64 p0_m), (Value.int IntKind.i64 p1_cpu)]) w (retK Tryd.prog Tryd.f7.results.toList R)) : Calls Tryd.prog 7 #[(Value.int IntKind.u64 p0_m), (Value.int IntKind.i64 p1_cpu)] w R := calls_den okProg Tryd.func7 b7 n7 (Nat.le_of_ble_eq_true rfl) h
theorem t7 (p0_m : Int) (p1_cpu : Int) (w : World) (R : Ending → World → Prop) : den Tryd.prog M7 c7 (argE 0 [(Value.int IntKind.u64 p0_m), (Value.int IntKind.i64 p1_cpu)]) w (retK Tryd.prog Tryd.f7.results.toList R) =
(Call Tryd.prog 28 [Value.int IntKind.u64 p0_m] w fun e w' =>
  ∃ n n_1,
    e = Ending.returned (Value.tuple #[Value.int IntKind.i64 n, Value.int IntKind.i64 n_1]) ∧
      Call Tryd.prog 29 [Value.int IntKind.u64 p0_m] w' fun e w' =>
        ∃ n_2 n_3,
          e = Ending.returned (Value.tuple #[Value.int IntKind.i64 n_2, Value.int IntKind.i64 n_3]) ∧
            Call Tryd.prog 30 [Value.int IntKind.u64 p0_m] w' fun e w' =>
              ∃ n_4 n_5,
                e = Ending.returned (Value.tuple #[Value.int IntKind.i64 n_4, Value.int IntKind.i64 n_5]) ∧
                  Call Tryd.prog 31 [Value.int IntKind.u64 p0_m] w' fun e w' =>
                    ∃ n_6 n_7,
                      e = Ending.returned (Value.tuple #[Value.int IntKind.i64 n_6, Value.int IntKind.i64 n_7]) ∧
                        Call Tryd.prog 27 [Value.int IntKind.u64 p0_m, Value.int IntKind.i64 p1_cpu] w'
                          fun e w' =>
                          ∃ n_8 n_9,
                            e = Ending.returned (Value.tuple #[Value.int IntKind.i64 n_8, Value.int IntKind.i64 n_9]) ∧
                              Call Tryd.prog 32 [Value.int IntKind.u64 p0_m, Value.int IntKind.i64 p1_cpu] w'
                                fun e w' =>
                                ∃ n_10 n_11,
                                  e =
                                      Ending.returned
                                        (Value.tuple #[Value.int IntKind.i64 n_10, Value.int IntKind.i64 n_11]) ∧
                                    Call Tryd.prog 33 [Value.int IntKind.u64 p0_m] w' fun e w' =>
                                      ∃ p n_12 c,
                                        e = Ending.returned (Value.slice p n_12 c) ∧
                                          Call Tryd.prog 26 [Value.int IntKind.u64 p0_m] w' fun e w' =>
                                            ∃ n_13,
                                              e = Ending.returned (Value.int IntKind.i64 n_13) ∧
                                                Call Tryd.prog 34 [Value.int IntKind.u64 p0_m] w' fun e w' =>
                                                  ∃ n_14,
                                                    e = Ending.returned (Value.int IntKind.i64 n_14) ∧
                                                      ((n_13 == n_14) = true →
                                                          Call Tryd.prog 36 [Value.int IntKind.u64 p0_m] w'
                                                            fun e w' =>
                                                            ∃ p_1 n_15 c_1,
                                                              e = Ending.returned (Value.slice p_1 n_15 c_1) ∧
                                                                Call Tryd.prog 35
                                                                  [Value.slice p n_12 c, Value.slice p_1 n_15 c_1] w'
                                                                  fun e w' =>
                                                                  ∃ b,
                                                                    e = Ending.returned (Value.bool b) ∧
                                                                      (b = true →
                                                                          ((n == n_2) = true →
                                                                              ((n_1 == n_3) = true →
                                                                                  ((n_4 == n_6) = true →
                                                                                      ((n_5 == n_7) = true →
                                                                                          ((n_8 == n_10) = true →
                                                                                              ((n_9 == n_11) = true →
                                                                                                  Call Tryd.prog
                                                                                                    10
                                                                                                    [Value.slice p n_12
                                                                                                        c]
                                                                                                    w' fun e w' =>
                                                                                                    ∃ n,
                                                                                                      e =
                                                                                                          Ending.returned
                                                                                                            (Value.int
                                                                                                              IntKind.u64
                                                                                                              n) ∧
                                                                                                        ((n == p0_m) =
                                                                                                              true →
                                                                                                            Call
                                                                                                              Tryd.prog
                                                                                                              8
                                                                                                              [] w'
                                                                                                              fun e
                                                                                                                w' =>
                                                                                                              ∃ b,
                                                                                                                e =
                                                                                                                    Ending.returned
                                                                                                                      (Value.bool
                                                                                                                        b) ∧
                                                                                                                  R
                                                                                                                    (Ending.returned
                                                                                                                      (Value.bool
                                                                                                                        b))
                                                                                                                    w') ∧
                                                                                                          ((n ==
                                                                                                                p0_m) =
                                                                                                              false →
                                                                                                            R
                                                                                                              (Ending.returned
                                                                                                                (Value.bool
                                                                                                                  false))
                                                                                                              w')) ∧
                                                                                                ((n_9 == n_11) = false →
                                                                                                  R
                                                                                                    (Ending.returned
                                                                                                      (Value.bool
                                                                                                        false))
                                                                                                    w')) ∧
                                                                                            ((n_8 == n_10) = false →
                                                                                              R
                                                                                                (Ending.returned
                                                                                                  (Value.bool false))
                                                                                                w')) ∧
                                                                                        ((n_5 == n_7) = false →
                                                                                          R
                                                                                            (Ending.returned
                                                                                              (Value.bool false))
                                                                                            w')) ∧
                                                                                    ((n_4 == n_6) = false →
                                                                                      R
                                                                                        (Ending.returned
                                                                                          (Value.bool false))
                                                                                        w')) ∧
                                                                                ((n_1 == n_3) = false →
                                                                                  R
                                                                                    (Ending.returned (Value.bool false))
                                                                                    w')) ∧
                                                                            ((n == n_2) = false →
                                                                              R (Ending.returned (Value.bool false))
                                                                                w')) ∧
                                                                        (b = false →
                                                                          R (Ending.returned (Value.bool false)) w')) ∧
                                                        ((n_13 == n_14) = false →
                                                          R (Ending.returned (Value.bool false)) w')) := by kernel_rfl
/-! davit/davitlaw01.known -/
def M8 : Mt := { N := 40, keep := [(0, []), (1, [1]), (2, [1, 2, 3]), (3, [1, 2, 3, 5]), (4, [0])], ords := [], bk := [], cuts := [], lk := [] }
noncomputable def c8 : Code := bodyOf Tryd.f8
theorem b8 : Tryd.f8.body = some c8 := by kernel_rfl
theorem n8 : Tryd.f8.ntmps = M8.N := by kernel_rfl
theorem u8  {w : World} {R : Ending → World → Prop} (h : den Tryd.prog M8 c8 (argE 0 []) w (retK Tryd.prog Tryd.f8.results.toList R)) : Calls Tryd.prog 8 #[] w R := calls_den okProg Tryd.func8 b8 n8 (Nat.le_of_ble_eq_true rfl) h
theorem t8  (w : World) (R : Ending → World → Prop) : den Tryd.prog M8 c8 (argE 0 []) w (retK Tryd.prog Tryd.f8.results.toList R) =
(New w
  [Value.int IntKind.i64 1, Value.int IntKind.i64 5, Value.int IntKind.i64 64,
    Value.int IntKind.i64 (-1 : Int)]
  3 fun p w' =>
  Call Tryd.prog 10 [Value.slice (some p) 4 4] w' fun e w' =>
    ∃ n,
      e = Ending.returned (Value.int IntKind.u64 n) ∧
        Call Tryd.prog 27 [Value.int IntKind.u64 n, Value.int IntKind.i64 5] w' fun e w' =>
          ∃ n_1 n_2,
            e = Ending.returned (Value.tuple #[Value.int IntKind.i64 n_1, Value.int IntKind.i64 n_2]) ∧
              Call Tryd.prog 28 [Value.int IntKind.u64 0] w' fun e w' =>
                ∃ n_3 n_4,
                  e = Ending.returned (Value.tuple #[Value.int IntKind.i64 n_3, Value.int IntKind.i64 n_4]) ∧
                    ((n == (34 : Int)) = true →
                        ((n_1 == (1 : Int)) = true →
                            ((n_2 == (0 : Int)) = true →
                                ((n_4 == (12 : Int)) = true →
                                    Call Tryd.prog 17 [Value.int IntKind.u64 n, Value.int IntKind.i64 5]
                                      w' fun e w' =>
                                      ∃ b,
                                        e = Ending.returned (Value.bool b) ∧
                                          (b = true →
                                              Call Tryd.prog 17
                                                [Value.int IntKind.u64 n, Value.int IntKind.i64 2] w'
                                                fun e w' =>
                                                ∃ b,
                                                  e = Ending.returned (Value.bool b) ∧
                                                    R (Ending.returned (Value.bool !b)) w') ∧
                                            (b = false → R (Ending.returned (Value.bool false)) w')) ∧
                                  ((n_4 == (12 : Int)) = false → R (Ending.returned (Value.bool false)) w')) ∧
                              ((n_2 == (0 : Int)) = false → R (Ending.returned (Value.bool false)) w')) ∧
                          ((n_1 == (1 : Int)) = false → R (Ending.returned (Value.bool false)) w')) ∧
                      ((n == (34 : Int)) = false → R (Ending.returned (Value.bool false)) w')) := by kernel_rfl
/-! davit/davitref01.With -/
def M9 : Mt := { N := 22, keep := [(0, [0, 1]), (1, [0, 1, 15]), (2, [4]), (3, [4])], ords := [], bk := [], cuts := [], lk := [] }
noncomputable def c9 : Code := bodyOf Tryd.f9
theorem b9 : Tryd.f9.body = some c9 := by kernel_rfl
theorem n9 : Tryd.f9.ntmps = M9.N := by kernel_rfl
theorem u9 {p0_m : Int} {p1_cpu : Int} {w : World} {R : Ending → World → Prop} (h : den Tryd.prog M9 c9 (argE 0 [(Value.int IntKind.u64 p0_m), (Value.int IntKind.i64 p1_cpu)]) w (retK Tryd.prog Tryd.f9.results.toList R)) : Calls Tryd.prog 9 #[(Value.int IntKind.u64 p0_m), (Value.int IntKind.i64 p1_cpu)] w R := calls_den okProg Tryd.func9 b9 n9 (Nat.le_of_ble_eq_true rfl) h
theorem t9 (p0_m : Int) (p1_cpu : Int) (w : World) (R : Ending → World → Prop) : den Tryd.prog M9 c9 (argE 0 [(Value.int IntKind.u64 p0_m), (Value.int IntKind.i64 p1_cpu)]) w (retK Tryd.prog Tryd.f9.results.toList R) =
((decide (p1_cpu < (0 : Int)) = false →
    (decide (p1_cpu > (63 : Int)) = false →
        Call Tryd.prog 18 [Value.int IntKind.u64 p0_m, Value.int IntKind.i64 p1_cpu] w fun e w' =>
          ∃ b,
            e = Ending.returned (Value.bool b) ∧
              (b = true → R (Ending.returned (Value.int IntKind.u64 p0_m)) w') ∧
                (b = false →
                  (0 : Int) ≤ IntKind.wrap IntKind.u64 p1_cpu ∧
                    R
                      (Ending.returned
                        (Value.int IntKind.u64
                          (IntKind.wrap IntKind.u64
                            (p0_m + shlOp IntKind.u64 (1 : Int) (IntKind.wrap IntKind.u64 p1_cpu)))))
                      w')) ∧
      (decide (p1_cpu > (63 : Int)) = true → R (Ending.returned (Value.int IntKind.u64 p0_m)) w)) ∧
  (decide (p1_cpu < (0 : Int)) = true → R (Ending.returned (Value.int IntKind.u64 p0_m)) w)) := by kernel_rfl
/-! davit/mask.Of -/
def M10 : Mt := { N := 5, keep := [(0, [0]), (1, [2])], ords := [], bk := [], cuts := [], lk := [] }
noncomputable def c10 : Code := bodyOf Tryd.f10
theorem b10 : Tryd.f10.body = some c10 := by kernel_rfl
theorem n10 : Tryd.f10.ntmps = M10.N := by kernel_rfl
theorem u10 {p0_cpus_a : Option Addr} {p0_cpus_n : Nat} {p0_cpus_c : Nat} {w : World} {R : Ending → World → Prop} (h : den Tryd.prog M10 c10 (argE 0 [(Value.slice p0_cpus_a p0_cpus_n p0_cpus_c)]) w (retK Tryd.prog Tryd.f10.results.toList R)) : Calls Tryd.prog 10 #[(Value.slice p0_cpus_a p0_cpus_n p0_cpus_c)] w R := calls_den okProg Tryd.func10 b10 n10 (Nat.le_of_ble_eq_true rfl) h
theorem t10 (p0_cpus_a : Option Addr) (p0_cpus_n : Nat) (p0_cpus_c : Nat) (w : World) (R : Ending → World → Prop) : den Tryd.prog M10 c10 (argE 0 [(Value.slice p0_cpus_a p0_cpus_n p0_cpus_c)]) w (retK Tryd.prog Tryd.f10.results.toList R) =
(Call Tryd.prog 14 [Value.int IntKind.u64 0, Value.slice p0_cpus_a p0_cpus_n p0_cpus_c] w fun e w' =>
  ∃ n, e = Ending.returned (Value.int IntKind.u64 n) ∧ R (Ending.returned (Value.int IntKind.u64 n)) w') := by kernel_rfl
/-! davit/davitref01.Of -/
def M11 : Mt := { N := 18, keep := [(0, [0]), (1, [0, 3]), (2, [0, 3, 4]), (3, [0, 3, 4, 8]), (4, [0, 3, 4]), (5, [0, 3, 4]), (6, [2])], ords := [], bk := [(0, [3]), (1, [0, 3, 4])], cuts := [], lk := [(3, [0, 3, 4])] }
noncomputable def c11 : Code := bodyOf Tryd.f11
noncomputable def c11_0 : Code := c11.sr.sr.sr
noncomputable def c11_1 : Code := c11.sr.sr.sl.sr.sl.sl
def e11_1 (p0_l_a : Option Addr) (p0_l_n : Nat) (p0_l_c : Nat) (p3_m : Int) (p4_i : Int) : Env := [(0, SV.v (Value.slice p0_l_a p0_l_n p0_l_c)), (3, SV.v (Value.int IntKind.u64 p3_m)), (4, SV.v (Value.int IntKind.i64 p4_i))]
def k11_1 (R : Ending → World → Prop) : Cont := blockK 0 [3] (seqK (fun E w => cutB (findL M11.cuts (headReg c11_0)) Tryd.prog M11 c11_0 E w (retK Tryd.prog Tryd.f11.results.toList R) fun E => den Tryd.prog M11 c11_0 E w (retK Tryd.prog Tryd.f11.results.toList R)) (retK Tryd.prog Tryd.f11.results.toList R))
theorem b11 : Tryd.f11.body = some c11 := by kernel_rfl
theorem n11 : Tryd.f11.ntmps = M11.N := by kernel_rfl
theorem u11 {p0_l_a : Option Addr} {p0_l_n : Nat} {p0_l_c : Nat} {w : World} {R : Ending → World → Prop} (h : den Tryd.prog M11 c11 (argE 0 [(Value.slice p0_l_a p0_l_n p0_l_c)]) w (retK Tryd.prog Tryd.f11.results.toList R)) : Calls Tryd.prog 11 #[(Value.slice p0_l_a p0_l_n p0_l_c)] w R := calls_den okProg Tryd.func11 b11 n11 (Nat.le_of_ble_eq_true rfl) h
theorem t11 (p0_l_a : Option Addr) (p0_l_n : Nat) (p0_l_c : Nat) (w : World) (R : Ending → World → Prop) : den Tryd.prog M11 c11 (argE 0 [(Value.slice p0_l_a p0_l_n p0_l_c)]) w (retK Tryd.prog Tryd.f11.results.toList R) =
(Cut (WP Tryd.prog 18 (Code.loop c11_1) (e11_1 p0_l_a p0_l_n p0_l_c (0 : Int) (0 : Int)) w (k11_1 R))) := by kernel_rfl
theorem t11_1 (p0_l_a : Option Addr) (p0_l_n : Nat) (p0_l_c : Nat) (p3_m : Int) (p4_i : Int) (w : World) (B11_1 : Env → World → Prop) (R : Ending → World → Prop) : den Tryd.prog M11 c11_1 (e11_1 p0_l_a p0_l_n p0_l_c p3_m p4_i) w (loopK B11_1 (k11_1 R)) =
((decide (p4_i < (↑p0_l_n : Int)) = true →
    ((0 : Int) ≤ p4_i ∧ p4_i < (↑p0_l_n : Int)) ∧
      ∃ a,
        p0_l_a = some a ∧
          ∃ n,
            World.cell? w (Addr.add a (Int.toNat p4_i * 1)) = some (Value.int IntKind.i64 n) ∧
              Call Tryd.prog 9 [Value.int IntKind.u64 p3_m, Value.int IntKind.i64 n] w fun e w' =>
                ∃ n,
                  e = Ending.returned (Value.int IntKind.u64 n) ∧
                    B11_1
                      [(0, SV.v (Value.slice p0_l_a p0_l_n p0_l_c)),
                        (3, SV.v (Value.int IntKind.u64 n)),
                        (4, SV.v (Value.int IntKind.i64 (IntKind.wrap IntKind.i64 (p4_i + (1 : Int)))))]
                      w') ∧
  (decide (p4_i < (↑p0_l_n : Int)) = false → R (Ending.returned (Value.int IntKind.u64 p3_m)) w)) := by kernel_rfl
/-! davit/mask.Upto -/
def M12 : Mt := { N := 12, keep := [(0, [0]), (1, [0, 3]), (2, [2]), (3, [0, 6]), (4, [2]), (5, [2])], ords := [], bk := [(0, [0])], cuts := [], lk := [] }
noncomputable def c12 : Code := bodyOf Tryd.f12
theorem b12 : Tryd.f12.body = some c12 := by kernel_rfl
theorem n12 : Tryd.f12.ntmps = M12.N := by kernel_rfl
theorem u12 {p0_n : Int} {w : World} {R : Ending → World → Prop} (h : den Tryd.prog M12 c12 (argE 0 [(Value.int IntKind.i64 p0_n)]) w (retK Tryd.prog Tryd.f12.results.toList R)) : Calls Tryd.prog 12 #[(Value.int IntKind.i64 p0_n)] w R := calls_den okProg Tryd.func12 b12 n12 (Nat.le_of_ble_eq_true rfl) h
theorem t12 (p0_n : Int) (w : World) (R : Ending → World → Prop) : den Tryd.prog M12 c12 (argE 0 [(Value.int IntKind.i64 p0_n)]) w (retK Tryd.prog Tryd.f12.results.toList R) =
((decide (p0_n ≤ (0 : Int)) = true → R (Ending.returned (Value.int IntKind.u64 0)) w) ∧
  (decide (p0_n ≤ (0 : Int)) = false →
    (decide (p0_n ≥ (64 : Int)) = true →
        R (Ending.returned (Value.int IntKind.u64 18446744073709551615)) w) ∧
      (decide (p0_n ≥ (64 : Int)) = false →
        Call Tryd.prog 37 [Value.int IntKind.i64 p0_n] w fun e w' =>
          ∃ n,
            e = Ending.returned (Value.int IntKind.u64 n) ∧
              R (Ending.returned (Value.int IntKind.u64 (IntKind.wrap IntKind.u64 (n - (1 : Int))))) w'))) := by kernel_rfl
/-! davit/davitref01.Upto -/
def M13 : Mt := { N := 18, keep := [(0, [0]), (1, [0, 3]), (2, [0, 3, 4]), (3, [0, 3, 4, 11]), (4, [0, 3, 4]), (5, [0, 3, 4]), (6, [2])], ords := [], bk := [(0, [3]), (1, [0, 3, 4])], cuts := [], lk := [(3, [0, 3, 4])] }
noncomputable def c13 : Code := bodyOf Tryd.f13
noncomputable def c13_0 : Code := c13.sr.sr.sr
noncomputable def c13_1 : Code := c13.sr.sr.sl.sr.sl.sl
def e13_1 (p0_n : Int) (p3_m : Int) (p4_i : Int) : Env := [(0, SV.v (Value.int IntKind.i64 p0_n)), (3, SV.v (Value.int IntKind.u64 p3_m)), (4, SV.v (Value.int IntKind.i64 p4_i))]
def k13_1 (R : Ending → World → Prop) : Cont := blockK 0 [3] (seqK (fun E w => cutB (findL M13.cuts (headReg c13_0)) Tryd.prog M13 c13_0 E w (retK Tryd.prog Tryd.f13.results.toList R) fun E => den Tryd.prog M13 c13_0 E w (retK Tryd.prog Tryd.f13.results.toList R)) (retK Tryd.prog Tryd.f13.results.toList R))
theorem b13 : Tryd.f13.body = some c13 := by kernel_rfl
theorem n13 : Tryd.f13.ntmps = M13.N := by kernel_rfl
theorem u13 {p0_n : Int} {w : World} {R : Ending → World → Prop} (h : den Tryd.prog M13 c13 (argE 0 [(Value.int IntKind.i64 p0_n)]) w (retK Tryd.prog Tryd.f13.results.toList R)) : Calls Tryd.prog 13 #[(Value.int IntKind.i64 p0_n)] w R := calls_den okProg Tryd.func13 b13 n13 (Nat.le_of_ble_eq_true rfl) h
theorem t13 (p0_n : Int) (w : World) (R : Ending → World → Prop) : den Tryd.prog M13 c13 (argE 0 [(Value.int IntKind.i64 p0_n)]) w (retK Tryd.prog Tryd.f13.results.toList R) =
(Cut (WP Tryd.prog 18 (Code.loop c13_1) (e13_1 p0_n (0 : Int) (0 : Int)) w (k13_1 R))) := by kernel_rfl
theorem t13_1 (p0_n : Int) (p3_m : Int) (p4_i : Int) (w : World) (B13_1 : Env → World → Prop) (R : Ending → World → Prop) : den Tryd.prog M13 c13_1 (e13_1 p0_n p3_m p4_i) w (loopK B13_1 (k13_1 R)) =
((decide (p4_i < p0_n) = true →
    (decide (p4_i < (64 : Int)) = true →
        Call Tryd.prog 9 [Value.int IntKind.u64 p3_m, Value.int IntKind.i64 p4_i] w fun e w' =>
          ∃ n,
            e = Ending.returned (Value.int IntKind.u64 n) ∧
              B13_1
                [(0, SV.v (Value.int IntKind.i64 p0_n)), (3, SV.v (Value.int IntKind.u64 n)),
                  (4, SV.v (Value.int IntKind.i64 (IntKind.wrap IntKind.i64 (p4_i + (1 : Int)))))]
                w') ∧
      (decide (p4_i < (64 : Int)) = false → R (Ending.returned (Value.int IntKind.u64 p3_m)) w)) ∧
  (decide (p4_i < p0_n) = false → R (Ending.returned (Value.int IntKind.u64 p3_m)) w)) := by kernel_rfl
/-! (davit/mask.Mask).With -/
def M14 : Mt := { N := 19, keep := [(0, [0, 1]), (1, [0, 7, 8, 9]), (2, [0, 7, 8, 9, 10]), (3, [0, 6, 7, 8, 9]), (4, [0, 7, 8, 9]), (5, [0, 7, 8, 9]), (6, [4])], ords := [], bk := [(0, [0]), (1, [0, 7, 8, 9])], cuts := [], lk := [(2, [0, 7, 8, 9])] }
noncomputable def c14 : Code := bodyOf Tryd.f14
noncomputable def c14_0 : Code := c14.sr.sr
noncomputable def c14_1 : Code := c14.sr.sl.sr.sl.sl
def e14_1 (p0_m : Int) (p7_t_a : Option Addr) (p7_t_n : Nat) (p7_t_c : Nat) (p8_t : Int) (p9_t : Int) : Env := [(0, SV.v (Value.int IntKind.u64 p0_m)), (7, SV.v (Value.slice p7_t_a p7_t_n p7_t_c)), (8, SV.v (Value.int IntKind.i64 p8_t)), (9, SV.v (Value.int IntKind.i64 p9_t))]
def k14_1 (R : Ending → World → Prop) : Cont := blockK 0 [0] (seqK (fun E w => cutB (findL M14.cuts (headReg c14_0)) Tryd.prog M14 c14_0 E w (retK Tryd.prog Tryd.f14.results.toList R) fun E => den Tryd.prog M14 c14_0 E w (retK Tryd.prog Tryd.f14.results.toList R)) (retK Tryd.prog Tryd.f14.results.toList R))
theorem b14 : Tryd.f14.body = some c14 := by kernel_rfl
theorem n14 : Tryd.f14.ntmps = M14.N := by kernel_rfl
theorem u14 {p0_m : Int} {p1_cpus_a : Option Addr} {p1_cpus_n : Nat} {p1_cpus_c : Nat} {w : World} {R : Ending → World → Prop} (h : den Tryd.prog M14 c14 (argE 0 [(Value.int IntKind.u64 p0_m), (Value.slice p1_cpus_a p1_cpus_n p1_cpus_c)]) w (retK Tryd.prog Tryd.f14.results.toList R)) : Calls Tryd.prog 14 #[(Value.int IntKind.u64 p0_m), (Value.slice p1_cpus_a p1_cpus_n p1_cpus_c)] w R := calls_den okProg Tryd.func14 b14 n14 (Nat.le_of_ble_eq_true rfl) h
theorem t14 (p0_m : Int) (p1_cpus_a : Option Addr) (p1_cpus_n : Nat) (p1_cpus_c : Nat) (w : World) (R : Ending → World → Prop) : den Tryd.prog M14 c14 (argE 0 [(Value.int IntKind.u64 p0_m), (Value.slice p1_cpus_a p1_cpus_n p1_cpus_c)]) w (retK Tryd.prog Tryd.f14.results.toList R) =
(Cut
  (WP Tryd.prog 19 (Code.loop c14_1)
    (e14_1 p0_m p1_cpus_a p1_cpus_n p1_cpus_c (↑p1_cpus_n : Int) (0 : Int)) w (k14_1 R))) := by kernel_rfl
theorem t14_1 (p0_m : Int) (p7_t_a : Option Addr) (p7_t_n : Nat) (p7_t_c : Nat) (p8_t : Int) (p9_t : Int) (w : World) (B14_1 : Env → World → Prop) (R : Ending → World → Prop) : den Tryd.prog M14 c14_1 (e14_1 p0_m p7_t_a p7_t_n p7_t_c p8_t p9_t) w (loopK B14_1 (k14_1 R)) =
((decide (p9_t < p8_t) = true →
    ((0 : Int) ≤ p9_t ∧ p9_t < (↑p7_t_n : Int)) ∧
      ∃ a,
        p7_t_a = some a ∧
          ∃ n,
            World.cell? w (Addr.add a (Int.toNat p9_t * 1)) = some (Value.int IntKind.i64 n) ∧
              Call Tryd.prog 37 [Value.int IntKind.i64 n] w fun e w' =>
                ∃ n,
                  e = Ending.returned (Value.int IntKind.u64 n) ∧
                    B14_1
                      [(0, SV.v (Value.int IntKind.u64 (bitsOp BinOp.or IntKind.u64 p0_m n))),
                        (7, SV.v (Value.slice p7_t_a p7_t_n p7_t_c)),
                        (8, SV.v (Value.int IntKind.i64 p8_t)),
                        (9, SV.v (Value.int IntKind.i64 (IntKind.wrap IntKind.i64 (p9_t + (1 : Int)))))]
                      w') ∧
  (decide (p9_t < p8_t) = false → R (Ending.returned (Value.int IntKind.u64 p0_m)) w)) := by kernel_rfl
/-! (davit/mask.Mask).Less -/
def M15 : Mt := { N := 9, keep := [(0, [0, 1]), (1, [4])], ords := [], bk := [], cuts := [], lk := [] }
noncomputable def c15 : Code := bodyOf Tryd.f15
theorem b15 : Tryd.f15.body = some c15 := by kernel_rfl
theorem n15 : Tryd.f15.ntmps = M15.N := by kernel_rfl
theorem u15 {p0_m : Int} {p1_cpu : Int} {w : World} {R : Ending → World → Prop} (h : den Tryd.prog M15 c15 (argE 0 [(Value.int IntKind.u64 p0_m), (Value.int IntKind.i64 p1_cpu)]) w (retK Tryd.prog Tryd.f15.results.toList R)) : Calls Tryd.prog 15 #[(Value.int IntKind.u64 p0_m), (Value.int IntKind.i64 p1_cpu)] w R := calls_den okProg Tryd.func15 b15 n15 (Nat.le_of_ble_eq_true rfl) h
theorem t15 (p0_m : Int) (p1_cpu : Int) (w : World) (R : Ending → World → Prop) : den Tryd.prog M15 c15 (argE 0 [(Value.int IntKind.u64 p0_m), (Value.int IntKind.i64 p1_cpu)]) w (retK Tryd.prog Tryd.f15.results.toList R) =
(Call Tryd.prog 37 [Value.int IntKind.i64 p1_cpu] w fun e w' =>
  ∃ n,
    e = Ending.returned (Value.int IntKind.u64 n) ∧
      R (Ending.returned (Value.int IntKind.u64 (bitsOp BinOp.andNot IntKind.u64 p0_m n))) w') := by kernel_rfl
/-! davit/davitref01.Less -/
def M16 : Mt := { N := 15, keep := [(0, [0, 1]), (1, [0, 1, 8]), (2, [4]), (3, [4])], ords := [], bk := [], cuts := [], lk := [] }
noncomputable def c16 : Code := bodyOf Tryd.f16
theorem b16 : Tryd.f16.body = some c16 := by kernel_rfl
theorem n16 : Tryd.f16.ntmps = M16.N := by kernel_rfl
theorem u16 {p0_m : Int} {p1_cpu : Int} {w : World} {R : Ending → World → Prop} (h : den Tryd.prog M16 c16 (argE 0 [(Value.int IntKind.u64 p0_m), (Value.int IntKind.i64 p1_cpu)]) w (retK Tryd.prog Tryd.f16.results.toList R)) : Calls Tryd.prog 16 #[(Value.int IntKind.u64 p0_m), (Value.int IntKind.i64 p1_cpu)] w R := calls_den okProg Tryd.func16 b16 n16 (Nat.le_of_ble_eq_true rfl) h
theorem t16 (p0_m : Int) (p1_cpu : Int) (w : World) (R : Ending → World → Prop) : den Tryd.prog M16 c16 (argE 0 [(Value.int IntKind.u64 p0_m), (Value.int IntKind.i64 p1_cpu)]) w (retK Tryd.prog Tryd.f16.results.toList R) =
(Call Tryd.prog 18 [Value.int IntKind.u64 p0_m, Value.int IntKind.i64 p1_cpu] w fun e w' =>
  ∃ b,
    e = Ending.returned (Value.bool b) ∧
      ((!b) = true → R (Ending.returned (Value.int IntKind.u64 p0_m)) w') ∧
        ((!b) = false →
          (0 : Int) ≤ IntKind.wrap IntKind.u64 p1_cpu ∧
            R
              (Ending.returned
                (Value.int IntKind.u64
                  (IntKind.wrap IntKind.u64 (p0_m - shlOp IntKind.u64 (1 : Int) (IntKind.wrap IntKind.u64 p1_cpu)))))
              w')) := by kernel_rfl
/-! (davit/mask.Mask).Has -/
def M17 : Mt := { N := 10, keep := [(0, [0, 1]), (1, [4])], ords := [], bk := [], cuts := [], lk := [] }
noncomputable def c17 : Code := bodyOf Tryd.f17
theorem b17 : Tryd.f17.body = some c17 := by kernel_rfl
theorem n17 : Tryd.f17.ntmps = M17.N := by kernel_rfl
theorem u17 {p0_m : Int} {p1_cpu : Int} {w : World} {R : Ending → World → Prop} (h : den Tryd.prog M17 c17 (argE 0 [(Value.int IntKind.u64 p0_m), (Value.int IntKind.i64 p1_cpu)]) w (retK Tryd.prog Tryd.f17.results.toList R)) : Calls Tryd.prog 17 #[(Value.int IntKind.u64 p0_m), (Value.int IntKind.i64 p1_cpu)] w R := calls_den okProg Tryd.func17 b17 n17 (Nat.le_of_ble_eq_true rfl) h
theorem t17 (p0_m : Int) (p1_cpu : Int) (w : World) (R : Ending → World → Prop) : den Tryd.prog M17 c17 (argE 0 [(Value.int IntKind.u64 p0_m), (Value.int IntKind.i64 p1_cpu)]) w (retK Tryd.prog Tryd.f17.results.toList R) =
(Call Tryd.prog 37 [Value.int IntKind.i64 p1_cpu] w fun e w' =>
  ∃ n,
    e = Ending.returned (Value.int IntKind.u64 n) ∧
      R (Ending.returned (Value.bool (bitsOp BinOp.and IntKind.u64 p0_m n != (0 : Int)))) w') := by kernel_rfl
/-! davit/davitref01.Has -/
def M18 : Mt := { N := 17, keep := [(0, [0, 1]), (1, [0, 1, 10]), (2, [4]), (3, [4])], ords := [], bk := [], cuts := [], lk := [] }
noncomputable def c18 : Code := bodyOf Tryd.f18
theorem b18 : Tryd.f18.body = some c18 := by kernel_rfl
theorem n18 : Tryd.f18.ntmps = M18.N := by kernel_rfl
theorem u18 {p0_m : Int} {p1_cpu : Int} {w : World} {R : Ending → World → Prop} (h : den Tryd.prog M18 c18 (argE 0 [(Value.int IntKind.u64 p0_m), (Value.int IntKind.i64 p1_cpu)]) w (retK Tryd.prog Tryd.f18.results.toList R)) : Calls Tryd.prog 18 #[(Value.int IntKind.u64 p0_m), (Value.int IntKind.i64 p1_cpu)] w R := calls_den okProg Tryd.func18 b18 n18 (Nat.le_of_ble_eq_true rfl) h
theorem t18 (p0_m : Int) (p1_cpu : Int) (w : World) (R : Ending → World → Prop) : den Tryd.prog M18 c18 (argE 0 [(Value.int IntKind.u64 p0_m), (Value.int IntKind.i64 p1_cpu)]) w (retK Tryd.prog Tryd.f18.results.toList R) =
((decide (p1_cpu < (0 : Int)) = false →
    (decide (p1_cpu > (63 : Int)) = true → R (Ending.returned (Value.bool false)) w) ∧
      (decide (p1_cpu > (63 : Int)) = false →
        (0 : Int) ≤ IntKind.wrap IntKind.u64 p1_cpu ∧
          (2 : Int) ≠ (0 : Int) ∧
            R
              (Ending.returned
                (Value.bool
                  (Int.tmod (shrOp IntKind.u64 p0_m (IntKind.wrap IntKind.u64 p1_cpu)) (2 : Int) == (1 : Int))))
              w)) ∧
  (decide (p1_cpu < (0 : Int)) = true → R (Ending.returned (Value.bool false)) w)) := by kernel_rfl
/-! (davit/mask.Mask).And -/
def M19 : Mt := { N := 8, keep := [(0, [0, 1]), (1, [4])], ords := [], bk := [], cuts := [], lk := [] }
noncomputable def c19 : Code := bodyOf Tryd.f19
theorem b19 : Tryd.f19.body = some c19 := by kernel_rfl
theorem n19 : Tryd.f19.ntmps = M19.N := by kernel_rfl
theorem u19 {p0_m : Int} {p1_o : Int} {w : World} {R : Ending → World → Prop} (h : den Tryd.prog M19 c19 (argE 0 [(Value.int IntKind.u64 p0_m), (Value.int IntKind.u64 p1_o)]) w (retK Tryd.prog Tryd.f19.results.toList R)) : Calls Tryd.prog 19 #[(Value.int IntKind.u64 p0_m), (Value.int IntKind.u64 p1_o)] w R := calls_den okProg Tryd.func19 b19 n19 (Nat.le_of_ble_eq_true rfl) h
theorem t19 (p0_m : Int) (p1_o : Int) (w : World) (R : Ending → World → Prop) : den Tryd.prog M19 c19 (argE 0 [(Value.int IntKind.u64 p0_m), (Value.int IntKind.u64 p1_o)]) w (retK Tryd.prog Tryd.f19.results.toList R) =
(R (Ending.returned (Value.int IntKind.u64 (bitsOp BinOp.and IntKind.u64 p0_m p1_o))) w) := by kernel_rfl
/-! davit/davitref01.And -/
def M20 : Mt := { N := 25, keep := [(0, [0, 1]), (1, [0, 1, 5]), (2, [0, 1, 5, 6]), (3, [0, 1, 5, 6, 8]), (4, [0, 1, 5, 6]), (5, [0, 1, 5, 6, 18]), (6, [0, 1, 5, 6]), (7, [4])], ords := [], bk := [(0, [5]), (1, [0, 1, 5, 6])], cuts := [(7, [5])], lk := [(3, [0, 1, 5, 6])] }
noncomputable def c20 : Code := bodyOf Tryd.f20
noncomputable def c20_0 : Code := c20.sr.sr.sr
noncomputable def c20_1 : Code := c20.sr.sr.sl.sr.sl.sl
def e20_0 (p5_l_a : Option Addr) (p5_l_n : Nat) (p5_l_c : Nat) : Env := [(5, SV.v (Value.slice p5_l_a p5_l_n p5_l_c))]
def e20_1 (p0_m : Int) (p1_o : Int) (p5_l_a : Option Addr) (p5_l_n : Nat) (p5_l_c : Nat) (p6_i : Int) : Env := [(0, SV.v (Value.int IntKind.u64 p0_m)), (1, SV.v (Value.int IntKind.u64 p1_o)), (5, SV.v (Value.slice p5_l_a p5_l_n p5_l_c)), (6, SV.v (Value.int IntKind.i64 p6_i))]
def k20_0 (R : Ending → World → Prop) : Cont := retK Tryd.prog Tryd.f20.results.toList R
def k20_1 (R : Ending → World → Prop) : Cont := blockK 0 [5] (seqK (fun E w => cutB (findL M20.cuts (headReg c20_0)) Tryd.prog M20 c20_0 E w (retK Tryd.prog Tryd.f20.results.toList R) fun E => den Tryd.prog M20 c20_0 E w (retK Tryd.prog Tryd.f20.results.toList R)) (retK Tryd.prog Tryd.f20.results.toList R))
theorem b20 : Tryd.f20.body = some c20 := by kernel_rfl
theorem n20 : Tryd.f20.ntmps = M20.N := by kernel_rfl
theorem u20 {p0_m : Int} {p1_o : Int} {w : World} {R : Ending → World → Prop} (h : den Tryd.prog M20 c20 (argE 0 [(Value.int IntKind.u64 p0_m), (Value.int IntKind.u64 p1_o)]) w (retK Tryd.prog Tryd.f20.results.toList R)) : Calls Tryd.prog 20 #[(Value.int IntKind.u64 p0_m), (Value.int IntKind.u64 p1_o)] w R := calls_den okProg Tryd.func20 b20 n20 (Nat.le_of_ble_eq_true rfl) h
theorem t20 (p0_m : Int) (p1_o : Int) (w : World) (R : Ending → World → Prop) : den Tryd.prog M20 c20 (argE 0 [(Value.int IntKind.u64 p0_m), (Value.int IntKind.u64 p1_o)]) w (retK Tryd.prog Tryd.f20.results.toList R) =
(Cut (WP Tryd.prog 25 (Code.loop c20_1) (e20_1 p0_m p1_o none 0 0 (0 : Int)) w (k20_1 R))) := by kernel_rfl
theorem t20_0 (p5_l_a : Option Addr) (p5_l_n : Nat) (p5_l_c : Nat) (w : World) (R : Ending → World → Prop) : den Tryd.prog M20 c20_0 (e20_0 p5_l_a p5_l_n p5_l_c) w (k20_0 R) =
(Call Tryd.prog 11 [Value.slice p5_l_a p5_l_n p5_l_c] w fun e w' =>
  ∃ n, e = Ending.returned (Value.int IntKind.u64 n) ∧ R (Ending.returned (Value.int IntKind.u64 n)) w') := by kernel_rfl
theorem t20_1 (p0_m : Int) (p1_o : Int) (p5_l_a : Option Addr) (p5_l_n : Nat) (p5_l_c : Nat) (p6_i : Int) (w : World) (B20_1 : Env → World → Prop) (R : Ending → World → Prop) : den Tryd.prog M20 c20_1 (e20_1 p0_m p1_o p5_l_a p5_l_n p5_l_c p6_i) w (loopK B20_1 (k20_1 R)) =
((decide (p6_i < (64 : Int)) = true →
    Call Tryd.prog 18 [Value.int IntKind.u64 p0_m, Value.int IntKind.i64 p6_i] w fun e w' =>
      ∃ b,
        e = Ending.returned (Value.bool b) ∧
          (b = true →
              Call Tryd.prog 18 [Value.int IntKind.u64 p1_o, Value.int IntKind.i64 p6_i] w' fun e w' =>
                ∃ b,
                  e = Ending.returned (Value.bool b) ∧
                    (b = true →
                        New w' [Value.int IntKind.i64 p6_i] 3 fun p w' =>
                          ∃ p_1 n c w'_1,
                            Sem.run Tryd.prog
                                  (Builtin.append_ #[23, 23] 23
                                    #[Value.slice p5_l_a p5_l_n p5_l_c, Value.slice (some p) 1 1])
                                  w' =
                                Result.ok (Value.slice p_1 n c) w'_1 ∧
                              B20_1
                                [(0, SV.v (Value.int IntKind.u64 p0_m)),
                                  (1, SV.v (Value.int IntKind.u64 p1_o)),
                                  (5, SV.v (Value.slice p_1 n c)),
                                  (6,
                                    SV.v (Value.int IntKind.i64 (IntKind.wrap IntKind.i64 (p6_i + (1 : Int)))))]
                                w'_1) ∧
                      (b = false →
                        B20_1
                          [(0, SV.v (Value.int IntKind.u64 p0_m)),
                            (1, SV.v (Value.int IntKind.u64 p1_o)),
                            (5, SV.v (Value.slice p5_l_a p5_l_n p5_l_c)),
                            (6, SV.v (Value.int IntKind.i64 (IntKind.wrap IntKind.i64 (p6_i + (1 : Int)))))]
                          w')) ∧
            (b = false →
              B20_1
                [(0, SV.v (Value.int IntKind.u64 p0_m)), (1, SV.v (Value.int IntKind.u64 p1_o)),
                  (5, SV.v (Value.slice p5_l_a p5_l_n p5_l_c)),
                  (6, SV.v (Value.int IntKind.i64 (IntKind.wrap IntKind.i64 (p6_i + (1 : Int)))))]
                w')) ∧
  (decide (p6_i < (64 : Int)) = false → CutD Tryd.prog M20 c20_0 (e20_0 p5_l_a p5_l_n p5_l_c) w (k20_0 R))) := by kernel_rfl
/-! (davit/mask.Mask).Or -/
def M21 : Mt := { N := 8, keep := [(0, [0, 1]), (1, [4])], ords := [], bk := [], cuts := [], lk := [] }
noncomputable def c21 : Code := bodyOf Tryd.f21
theorem b21 : Tryd.f21.body = some c21 := by kernel_rfl
theorem n21 : Tryd.f21.ntmps = M21.N := by kernel_rfl
theorem u21 {p0_m : Int} {p1_o : Int} {w : World} {R : Ending → World → Prop} (h : den Tryd.prog M21 c21 (argE 0 [(Value.int IntKind.u64 p0_m), (Value.int IntKind.u64 p1_o)]) w (retK Tryd.prog Tryd.f21.results.toList R)) : Calls Tryd.prog 21 #[(Value.int IntKind.u64 p0_m), (Value.int IntKind.u64 p1_o)] w R := calls_den okProg Tryd.func21 b21 n21 (Nat.le_of_ble_eq_true rfl) h
theorem t21 (p0_m : Int) (p1_o : Int) (w : World) (R : Ending → World → Prop) : den Tryd.prog M21 c21 (argE 0 [(Value.int IntKind.u64 p0_m), (Value.int IntKind.u64 p1_o)]) w (retK Tryd.prog Tryd.f21.results.toList R) =
(R (Ending.returned (Value.int IntKind.u64 (bitsOp BinOp.or IntKind.u64 p0_m p1_o))) w) := by kernel_rfl
/-! davit/davitref01.Or -/
def M22 : Mt := { N := 25, keep := [(0, [0, 1]), (1, [0, 1, 5]), (2, [0, 1, 5, 6]), (3, [0, 1, 5, 6, 8]), (4, [0, 1, 5, 6]), (5, [0, 1, 5, 6, 18]), (6, [0, 1, 5, 6]), (7, [4])], ords := [], bk := [(0, [5]), (1, [0, 1, 5, 6])], cuts := [(7, [5])], lk := [(3, [0, 1, 5, 6])] }
noncomputable def c22 : Code := bodyOf Tryd.f22
noncomputable def c22_0 : Code := c22.sr.sr.sr
noncomputable def c22_1 : Code := c22.sr.sr.sl.sr.sl.sl
def e22_0 (p5_l_a : Option Addr) (p5_l_n : Nat) (p5_l_c : Nat) : Env := [(5, SV.v (Value.slice p5_l_a p5_l_n p5_l_c))]
def e22_1 (p0_m : Int) (p1_o : Int) (p5_l_a : Option Addr) (p5_l_n : Nat) (p5_l_c : Nat) (p6_i : Int) : Env := [(0, SV.v (Value.int IntKind.u64 p0_m)), (1, SV.v (Value.int IntKind.u64 p1_o)), (5, SV.v (Value.slice p5_l_a p5_l_n p5_l_c)), (6, SV.v (Value.int IntKind.i64 p6_i))]
def k22_0 (R : Ending → World → Prop) : Cont := retK Tryd.prog Tryd.f22.results.toList R
def k22_1 (R : Ending → World → Prop) : Cont := blockK 0 [5] (seqK (fun E w => cutB (findL M22.cuts (headReg c22_0)) Tryd.prog M22 c22_0 E w (retK Tryd.prog Tryd.f22.results.toList R) fun E => den Tryd.prog M22 c22_0 E w (retK Tryd.prog Tryd.f22.results.toList R)) (retK Tryd.prog Tryd.f22.results.toList R))
theorem b22 : Tryd.f22.body = some c22 := by kernel_rfl
theorem n22 : Tryd.f22.ntmps = M22.N := by kernel_rfl
theorem u22 {p0_m : Int} {p1_o : Int} {w : World} {R : Ending → World → Prop} (h : den Tryd.prog M22 c22 (argE 0 [(Value.int IntKind.u64 p0_m), (Value.int IntKind.u64 p1_o)]) w (retK Tryd.prog Tryd.f22.results.toList R)) : Calls Tryd.prog 22 #[(Value.int IntKind.u64 p0_m), (Value.int IntKind.u64 p1_o)] w R := calls_den okProg Tryd.func22 b22 n22 (Nat.le_of_ble_eq_true rfl) h
theorem t22 (p0_m : Int) (p1_o : Int) (w : World) (R : Ending → World → Prop) : den Tryd.prog M22 c22 (argE 0 [(Value.int IntKind.u64 p0_m), (Value.int IntKind.u64 p1_o)]) w (retK Tryd.prog Tryd.f22.results.toList R) =
(Cut (WP Tryd.prog 25 (Code.loop c22_1) (e22_1 p0_m p1_o none 0 0 (0 : Int)) w (k22_1 R))) := by kernel_rfl
theorem t22_0 (p5_l_a : Option Addr) (p5_l_n : Nat) (p5_l_c : Nat) (w : World) (R : Ending → World → Prop) : den Tryd.prog M22 c22_0 (e22_0 p5_l_a p5_l_n p5_l_c) w (k22_0 R) =
(Call Tryd.prog 11 [Value.slice p5_l_a p5_l_n p5_l_c] w fun e w' =>
  ∃ n, e = Ending.returned (Value.int IntKind.u64 n) ∧ R (Ending.returned (Value.int IntKind.u64 n)) w') := by kernel_rfl
theorem t22_1 (p0_m : Int) (p1_o : Int) (p5_l_a : Option Addr) (p5_l_n : Nat) (p5_l_c : Nat) (p6_i : Int) (w : World) (B22_1 : Env → World → Prop) (R : Ending → World → Prop) : den Tryd.prog M22 c22_1 (e22_1 p0_m p1_o p5_l_a p5_l_n p5_l_c p6_i) w (loopK B22_1 (k22_1 R)) =
((decide (p6_i < (64 : Int)) = true →
    Call Tryd.prog 18 [Value.int IntKind.u64 p0_m, Value.int IntKind.i64 p6_i] w fun e w' =>
      ∃ b,
        e = Ending.returned (Value.bool b) ∧
          (b = false →
              Call Tryd.prog 18 [Value.int IntKind.u64 p1_o, Value.int IntKind.i64 p6_i] w' fun e w' =>
                ∃ b,
                  e = Ending.returned (Value.bool b) ∧
                    (b = true →
                        New w' [Value.int IntKind.i64 p6_i] 3 fun p w' =>
                          ∃ p_1 n c w'_1,
                            Sem.run Tryd.prog
                                  (Builtin.append_ #[23, 23] 23
                                    #[Value.slice p5_l_a p5_l_n p5_l_c, Value.slice (some p) 1 1])
                                  w' =
                                Result.ok (Value.slice p_1 n c) w'_1 ∧
                              B22_1
                                [(0, SV.v (Value.int IntKind.u64 p0_m)),
                                  (1, SV.v (Value.int IntKind.u64 p1_o)),
                                  (5, SV.v (Value.slice p_1 n c)),
                                  (6,
                                    SV.v (Value.int IntKind.i64 (IntKind.wrap IntKind.i64 (p6_i + (1 : Int)))))]
                                w'_1) ∧
                      (b = false →
                        B22_1
                          [(0, SV.v (Value.int IntKind.u64 p0_m)),
                            (1, SV.v (Value.int IntKind.u64 p1_o)),
                            (5, SV.v (Value.slice p5_l_a p5_l_n p5_l_c)),
                            (6, SV.v (Value.int IntKind.i64 (IntKind.wrap IntKind.i64 (p6_i + (1 : Int)))))]
                          w')) ∧
            (b = true →
              New w' [Value.int IntKind.i64 p6_i] 3 fun p w' =>
                ∃ p_1 n c w'_1,
                  Sem.run Tryd.prog
                        (Builtin.append_ #[23, 23] 23
                          #[Value.slice p5_l_a p5_l_n p5_l_c, Value.slice (some p) 1 1])
                        w' =
                      Result.ok (Value.slice p_1 n c) w'_1 ∧
                    B22_1
                      [(0, SV.v (Value.int IntKind.u64 p0_m)), (1, SV.v (Value.int IntKind.u64 p1_o)),
                        (5, SV.v (Value.slice p_1 n c)),
                        (6, SV.v (Value.int IntKind.i64 (IntKind.wrap IntKind.i64 (p6_i + (1 : Int)))))]
                      w'_1)) ∧
  (decide (p6_i < (64 : Int)) = false → CutD Tryd.prog M22 c22_0 (e22_0 p5_l_a p5_l_n p5_l_c) w (k22_0 R))) := by kernel_rfl
/-! (davit/mask.Mask).Not -/
def M23 : Mt := { N := 8, keep := [(0, [0, 1]), (1, [4])], ords := [], bk := [], cuts := [], lk := [] }
noncomputable def c23 : Code := bodyOf Tryd.f23
theorem b23 : Tryd.f23.body = some c23 := by kernel_rfl
theorem n23 : Tryd.f23.ntmps = M23.N := by kernel_rfl
theorem u23 {p0_m : Int} {p1_o : Int} {w : World} {R : Ending → World → Prop} (h : den Tryd.prog M23 c23 (argE 0 [(Value.int IntKind.u64 p0_m), (Value.int IntKind.u64 p1_o)]) w (retK Tryd.prog Tryd.f23.results.toList R)) : Calls Tryd.prog 23 #[(Value.int IntKind.u64 p0_m), (Value.int IntKind.u64 p1_o)] w R := calls_den okProg Tryd.func23 b23 n23 (Nat.le_of_ble_eq_true rfl) h
theorem t23 (p0_m : Int) (p1_o : Int) (w : World) (R : Ending → World → Prop) : den Tryd.prog M23 c23 (argE 0 [(Value.int IntKind.u64 p0_m), (Value.int IntKind.u64 p1_o)]) w (retK Tryd.prog Tryd.f23.results.toList R) =
(R (Ending.returned (Value.int IntKind.u64 (bitsOp BinOp.andNot IntKind.u64 p0_m p1_o))) w) := by kernel_rfl
/-! davit/davitref01.Not -/
def M24 : Mt := { N := 26, keep := [(0, [0, 1]), (1, [0, 1, 5]), (2, [0, 1, 5, 6]), (3, [0, 1, 5, 6, 8]), (4, [0, 1, 5, 6]), (5, [0, 1, 5, 6, 19]), (6, [0, 1, 5, 6]), (7, [4])], ords := [], bk := [(0, [5]), (1, [0, 1, 5, 6])], cuts := [(7, [5])], lk := [(3, [0, 1, 5, 6])] }
noncomputable def c24 : Code := bodyOf Tryd.f24
noncomputable def c24_0 : Code := c24.sr.sr.sr
noncomputable def c24_1 : Code := c24.sr.sr.sl.sr.sl.sl
def e24_0 (p5_l_a : Option Addr) (p5_l_n : Nat) (p5_l_c : Nat) : Env := [(5, SV.v (Value.slice p5_l_a p5_l_n p5_l_c))]
def e24_1 (p0_m : Int) (p1_o : Int) (p5_l_a : Option Addr) (p5_l_n : Nat) (p5_l_c : Nat) (p6_i : Int) : Env := [(0, SV.v (Value.int IntKind.u64 p0_m)), (1, SV.v (Value.int IntKind.u64 p1_o)), (5, SV.v (Value.slice p5_l_a p5_l_n p5_l_c)), (6, SV.v (Value.int IntKind.i64 p6_i))]
def k24_0 (R : Ending → World → Prop) : Cont := retK Tryd.prog Tryd.f24.results.toList R
def k24_1 (R : Ending → World → Prop) : Cont := blockK 0 [5] (seqK (fun E w => cutB (findL M24.cuts (headReg c24_0)) Tryd.prog M24 c24_0 E w (retK Tryd.prog Tryd.f24.results.toList R) fun E => den Tryd.prog M24 c24_0 E w (retK Tryd.prog Tryd.f24.results.toList R)) (retK Tryd.prog Tryd.f24.results.toList R))
theorem b24 : Tryd.f24.body = some c24 := by kernel_rfl
theorem n24 : Tryd.f24.ntmps = M24.N := by kernel_rfl
theorem u24 {p0_m : Int} {p1_o : Int} {w : World} {R : Ending → World → Prop} (h : den Tryd.prog M24 c24 (argE 0 [(Value.int IntKind.u64 p0_m), (Value.int IntKind.u64 p1_o)]) w (retK Tryd.prog Tryd.f24.results.toList R)) : Calls Tryd.prog 24 #[(Value.int IntKind.u64 p0_m), (Value.int IntKind.u64 p1_o)] w R := calls_den okProg Tryd.func24 b24 n24 (Nat.le_of_ble_eq_true rfl) h
theorem t24 (p0_m : Int) (p1_o : Int) (w : World) (R : Ending → World → Prop) : den Tryd.prog M24 c24 (argE 0 [(Value.int IntKind.u64 p0_m), (Value.int IntKind.u64 p1_o)]) w (retK Tryd.prog Tryd.f24.results.toList R) =
(Cut (WP Tryd.prog 26 (Code.loop c24_1) (e24_1 p0_m p1_o none 0 0 (0 : Int)) w (k24_1 R))) := by kernel_rfl
theorem t24_0 (p5_l_a : Option Addr) (p5_l_n : Nat) (p5_l_c : Nat) (w : World) (R : Ending → World → Prop) : den Tryd.prog M24 c24_0 (e24_0 p5_l_a p5_l_n p5_l_c) w (k24_0 R) =
(Call Tryd.prog 11 [Value.slice p5_l_a p5_l_n p5_l_c] w fun e w' =>
  ∃ n, e = Ending.returned (Value.int IntKind.u64 n) ∧ R (Ending.returned (Value.int IntKind.u64 n)) w') := by kernel_rfl
theorem t24_1 (p0_m : Int) (p1_o : Int) (p5_l_a : Option Addr) (p5_l_n : Nat) (p5_l_c : Nat) (p6_i : Int) (w : World) (B24_1 : Env → World → Prop) (R : Ending → World → Prop) : den Tryd.prog M24 c24_1 (e24_1 p0_m p1_o p5_l_a p5_l_n p5_l_c p6_i) w (loopK B24_1 (k24_1 R)) =
((decide (p6_i < (64 : Int)) = true →
    Call Tryd.prog 18 [Value.int IntKind.u64 p0_m, Value.int IntKind.i64 p6_i] w fun e w' =>
      ∃ b,
        e = Ending.returned (Value.bool b) ∧
          (b = true →
              Call Tryd.prog 18 [Value.int IntKind.u64 p1_o, Value.int IntKind.i64 p6_i] w' fun e w' =>
                ∃ b,
                  e = Ending.returned (Value.bool b) ∧
                    ((!b) = true →
                        New w' [Value.int IntKind.i64 p6_i] 3 fun p w' =>
                          ∃ p_1 n c w'_1,
                            Sem.run Tryd.prog
                                  (Builtin.append_ #[23, 23] 23
                                    #[Value.slice p5_l_a p5_l_n p5_l_c, Value.slice (some p) 1 1])
                                  w' =
                                Result.ok (Value.slice p_1 n c) w'_1 ∧
                              B24_1
                                [(0, SV.v (Value.int IntKind.u64 p0_m)),
                                  (1, SV.v (Value.int IntKind.u64 p1_o)),
                                  (5, SV.v (Value.slice p_1 n c)),
                                  (6,
                                    SV.v (Value.int IntKind.i64 (IntKind.wrap IntKind.i64 (p6_i + (1 : Int)))))]
                                w'_1) ∧
                      ((!b) = false →
                        B24_1
                          [(0, SV.v (Value.int IntKind.u64 p0_m)),
                            (1, SV.v (Value.int IntKind.u64 p1_o)),
                            (5, SV.v (Value.slice p5_l_a p5_l_n p5_l_c)),
                            (6, SV.v (Value.int IntKind.i64 (IntKind.wrap IntKind.i64 (p6_i + (1 : Int)))))]
                          w')) ∧
            (b = false →
              B24_1
                [(0, SV.v (Value.int IntKind.u64 p0_m)), (1, SV.v (Value.int IntKind.u64 p1_o)),
                  (5, SV.v (Value.slice p5_l_a p5_l_n p5_l_c)),
                  (6, SV.v (Value.int IntKind.i64 (IntKind.wrap IntKind.i64 (p6_i + (1 : Int)))))]
                w')) ∧
  (decide (p6_i < (64 : Int)) = false → CutD Tryd.prog M24 c24_0 (e24_0 p5_l_a p5_l_n p5_l_c) w (k24_0 R))) := by kernel_rfl
/-! (davit/mask.Mask).Within -/
def M25 : Mt := { N := 9, keep := [(0, [0, 1]), (1, [4])], ords := [], bk := [], cuts := [], lk := [] }
noncomputable def c25 : Code := bodyOf Tryd.f25
theorem b25 : Tryd.f25.body = some c25 := by kernel_rfl
theorem n25 : Tryd.f25.ntmps = M25.N := by kernel_rfl
theorem u25 {p0_m : Int} {p1_o : Int} {w : World} {R : Ending → World → Prop} (h : den Tryd.prog M25 c25 (argE 0 [(Value.int IntKind.u64 p0_m), (Value.int IntKind.u64 p1_o)]) w (retK Tryd.prog Tryd.f25.results.toList R)) : Calls Tryd.prog 25 #[(Value.int IntKind.u64 p0_m), (Value.int IntKind.u64 p1_o)] w R := calls_den okProg Tryd.func25 b25 n25 (Nat.le_of_ble_eq_true rfl) h
theorem t25 (p0_m : Int) (p1_o : Int) (w : World) (R : Ending → World → Prop) : den Tryd.prog M25 c25 (argE 0 [(Value.int IntKind.u64 p0_m), (Value.int IntKind.u64 p1_o)]) w (retK Tryd.prog Tryd.f25.results.toList R) =
(R (Ending.returned (Value.bool (bitsOp BinOp.andNot IntKind.u64 p0_m p1_o == (0 : Int)))) w) := by kernel_rfl
/-! (davit/mask.Mask).Many -/
def M26 : Mt := { N := 5, keep := [(0, [0]), (1, [2])], ords := [], bk := [], cuts := [], lk := [] }
noncomputable def c26 : Code := bodyOf Tryd.f26
theorem b26 : Tryd.f26.body = some c26 := by kernel_rfl
theorem n26 : Tryd.f26.ntmps = M26.N := by kernel_rfl
theorem u26 {p0_m : Int} {w : World} {R : Ending → World → Prop} (h : den Tryd.prog M26 c26 (argE 0 [(Value.int IntKind.u64 p0_m)]) w (retK Tryd.prog Tryd.f26.results.toList R)) : Calls Tryd.prog 26 #[(Value.int IntKind.u64 p0_m)] w R := calls_den okProg Tryd.func26 b26 n26 (Nat.le_of_ble_eq_true rfl) h
theorem t26 (p0_m : Int) (w : World) (R : Ending → World → Prop) : den Tryd.prog M26 c26 (argE 0 [(Value.int IntKind.u64 p0_m)]) w (retK Tryd.prog Tryd.f26.results.toList R) =
(Call Tryd.prog 38 [Value.int IntKind.u64 p0_m] w fun e w' =>
  ∃ n, e = Ending.returned (Value.int IntKind.i64 n) ∧ R (Ending.returned (Value.int IntKind.i64 n)) w') := by kernel_rfl
/-! (davit/mask.Mask).Next -/
def M27 : Mt := { N := 32, keep := [(0, [0, 1]), (1, [0, 1, 12]), (2, [4, 5]), (3, [0, 6]), (4, [0, 6, 23]), (5, [4, 5]), (6, [4, 5])], ords := [], bk := [], cuts := [], lk := [] }
noncomputable def c27 : Code := bodyOf Tryd.f27
theorem b27 : Tryd.f27.body = some c27 := by kernel_rfl
theorem n27 : Tryd.f27.ntmps = M27.N := by kernel_rfl
theorem u27 {p0_m : Int} {p1_cpu : Int} {w : World} {R : Ending → World → Prop} (h : den Tryd.prog M27 c27 (argE 0 [(Value.int IntKind.u64 p0_m), (Value.int IntKind.i64 p1_cpu)]) w (retK Tryd.prog Tryd.f27.results.toList R)) : Calls Tryd.prog 27 #[(Value.int IntKind.u64 p0_m), (Value.int IntKind.i64 p1_cpu)] w R := calls_den okProg Tryd.func27 b27 n27 (Nat.le_of_ble_eq_true rfl) h
theorem t27 (p0_m : Int) (p1_cpu : Int) (w : World) (R : Ending → World → Prop) : den Tryd.prog M27 c27 (argE 0 [(Value.int IntKind.u64 p0_m), (Value.int IntKind.i64 p1_cpu)]) w (retK Tryd.prog Tryd.f27.results.toList R) =
((decide (p1_cpu < (0 : Int)) = false →
    (decide (p1_cpu ≥ (63 : Int)) = true →
        Call Tryd.prog 28 [Value.int IntKind.u64 p0_m] w fun e w' =>
          ∃ n n_1,
            e = Ending.returned (Value.tuple #[Value.int IntKind.i64 n, Value.int IntKind.i64 n_1]) ∧
              R (Ending.returned (Value.tuple #[Value.int IntKind.i64 n, Value.int IntKind.i64 n_1])) w') ∧
      (decide (p1_cpu ≥ (63 : Int)) = false →
        Call Tryd.prog 12 [Value.int IntKind.i64 (IntKind.wrap IntKind.i64 (p1_cpu + (1 : Int)))] w
          fun e w' =>
          ∃ n,
            e = Ending.returned (Value.int IntKind.u64 n) ∧
              ((bitsOp BinOp.andNot IntKind.u64 p0_m n != (0 : Int)) = true →
                  Call Tryd.prog 28 [Value.int IntKind.u64 (bitsOp BinOp.andNot IntKind.u64 p0_m n)] w'
                    fun e w' =>
                    ∃ n n_1,
                      e = Ending.returned (Value.tuple #[Value.int IntKind.i64 n, Value.int IntKind.i64 n_1]) ∧
                        R (Ending.returned (Value.tuple #[Value.int IntKind.i64 n, Value.int IntKind.i64 n_1])) w') ∧
                ((bitsOp BinOp.andNot IntKind.u64 p0_m n != (0 : Int)) = false →
                  Call Tryd.prog 28 [Value.int IntKind.u64 p0_m] w' fun e w' =>
                    ∃ n n_1,
                      e = Ending.returned (Value.tuple #[Value.int IntKind.i64 n, Value.int IntKind.i64 n_1]) ∧
                        R (Ending.returned (Value.tuple #[Value.int IntKind.i64 n, Value.int IntKind.i64 n_1])) w'))) ∧
  (decide (p1_cpu < (0 : Int)) = true →
    Call Tryd.prog 28 [Value.int IntKind.u64 p0_m] w fun e w' =>
      ∃ n n_1,
        e = Ending.returned (Value.tuple #[Value.int IntKind.i64 n, Value.int IntKind.i64 n_1]) ∧
          R (Ending.returned (Value.tuple #[Value.int IntKind.i64 n, Value.int IntKind.i64 n_1])) w')) := by kernel_rfl
/-! (davit/mask.Mask).First -/
def M28 : Mt := { N := 8, keep := [(0, [0]), (1, [0, 5]), (2, [2, 3]), (3, [2, 3])], ords := [], bk := [], cuts := [], lk := [] }
noncomputable def c28 : Code := bodyOf Tryd.f28
theorem b28 : Tryd.f28.body = some c28 := by kernel_rfl
theorem n28 : Tryd.f28.ntmps = M28.N := by kernel_rfl
theorem u28 {p0_m : Int} {w : World} {R : Ending → World → Prop} (h : den Tryd.prog M28 c28 (argE 0 [(Value.int IntKind.u64 p0_m)]) w (retK Tryd.prog Tryd.f28.results.toList R)) : Calls Tryd.prog 28 #[(Value.int IntKind.u64 p0_m)] w R := calls_den okProg Tryd.func28 b28 n28 (Nat.le_of_ble_eq_true rfl) h
theorem t28 (p0_m : Int) (w : World) (R : Ending → World → Prop) : den Tryd.prog M28 c28 (argE 0 [(Value.int IntKind.u64 p0_m)]) w (retK Tryd.prog Tryd.f28.results.toList R) =
(((p0_m == (0 : Int)) = true →
    R (Ending.returned (Value.tuple #[Value.int IntKind.i64 0, Value.int IntKind.i64 12])) w) ∧
  ((p0_m == (0 : Int)) = false →
    Call Tryd.prog 39 [Value.int IntKind.u64 p0_m] w fun e w' =>
      ∃ n,
        e = Ending.returned (Value.int IntKind.i64 n) ∧
          R (Ending.returned (Value.tuple #[Value.int IntKind.i64 n, Value.int IntKind.i64 0])) w')) := by kernel_rfl
/-! davit/davitref01.First -/
def M29 : Mt := { N := 13, keep := [(0, [0]), (1, [4]), (2, [4, 9]), (3, [2, 3]), (4, [2, 3])], ords := [], bk := [], cuts := [], lk := [] }
noncomputable def c29 : Code := bodyOf Tryd.f29
theorem b29 : Tryd.f29.body = some c29 := by kernel_rfl
theorem n29 : Tryd.f29.ntmps = M29.N := by kernel_rfl
theorem u29 {p0_m : Int} {w : World} {R : Ending → World → Prop} (h : den Tryd.prog M29 c29 (argE 0 [(Value.int IntKind.u64 p0_m)]) w (retK Tryd.prog Tryd.f29.results.toList R)) : Calls Tryd.prog 29 #[(Value.int IntKind.u64 p0_m)] w R := calls_den okProg Tryd.func29 b29 n29 (Nat.le_of_ble_eq_true rfl) h
theorem t29 (p0_m : Int) (w : World) (R : Ending → World → Prop) : den Tryd.prog M29 c29 (argE 0 [(Value.int IntKind.u64 p0_m)]) w (retK Tryd.prog Tryd.f29.results.toList R) =
(Call Tryd.prog 36 [Value.int IntKind.u64 p0_m] w fun e w' =>
  ∃ p n c,
    e = Ending.returned (Value.slice p n c) ∧
      (((↑n : Int) == (0 : Int)) = true →
          R (Ending.returned (Value.tuple #[Value.int IntKind.i64 0, Value.int IntKind.i64 12])) w') ∧
        (((↑n : Int) == (0 : Int)) = false →
          ((0 : Int) ≤ (0 : Int) ∧ (0 : Int) < (↑n : Int)) ∧
            ∃ a,
              p = some a ∧
                ∃ n,
                  World.cell? w' (Addr.add a 0) = some (Value.int IntKind.i64 n) ∧
                    R (Ending.returned (Value.tuple #[Value.int IntKind.i64 n, Value.int IntKind.i64 0])) w')) := by kernel_rfl
/-! (davit/mask.Mask).Last -/
def M30 : Mt := { N := 9, keep := [(0, [0]), (1, [0, 5]), (2, [2, 3]), (3, [2, 3])], ords := [], bk := [], cuts := [], lk := [] }
noncomputable def c30 : Code := bodyOf Tryd.f30
theorem b30 : Tryd.f30.body = some c30 := by kernel_rfl
theorem n30 : Tryd.f30.ntmps = M30.N := by kernel_rfl
theorem u30 {p0_m : Int} {w : World} {R : Ending → World → Prop} (h : den Tryd.prog M30 c30 (argE 0 [(Value.int IntKind.u64 p0_m)]) w (retK Tryd.prog Tryd.f30.results.toList R)) : Calls Tryd.prog 30 #[(Value.int IntKind.u64 p0_m)] w R := calls_den okProg Tryd.func30 b30 n30 (Nat.le_of_ble_eq_true rfl) h
theorem t30 (p0_m : Int) (w : World) (R : Ending → World → Prop) : den Tryd.prog M30 c30 (argE 0 [(Value.int IntKind.u64 p0_m)]) w (retK Tryd.prog Tryd.f30.results.toList R) =
(((p0_m == (0 : Int)) = true →
    R (Ending.returned (Value.tuple #[Value.int IntKind.i64 0, Value.int IntKind.i64 12])) w) ∧
  ((p0_m == (0 : Int)) = false →
    Call Tryd.prog 40 [Value.int IntKind.u64 p0_m] w fun e w' =>
      ∃ n,
        e = Ending.returned (Value.int IntKind.i64 n) ∧
          R
            (Ending.returned
              (Value.tuple
                #[Value.int IntKind.i64 (IntKind.wrap IntKind.i64 (n - (1 : Int))), Value.int IntKind.i64 0]))
            w')) := by kernel_rfl
/-! davit/davitref01.Last -/
def M31 : Mt := { N := 16, keep := [(0, [0]), (1, [4]), (2, [4, 9]), (3, [2, 3]), (4, [2, 3])], ords := [], bk := [], cuts := [], lk := [] }
noncomputable def c31 : Code := bodyOf Tryd.f31
theorem b31 : Tryd.f31.body = some c31 := by kernel_rfl
theorem n31 : Tryd.f31.ntmps = M31.N := by kernel_rfl
theorem u31 {p0_m : Int} {w : World} {R : Ending → World → Prop} (h : den Tryd.prog M31 c31 (argE 0 [(Value.int IntKind.u64 p0_m)]) w (retK Tryd.prog Tryd.f31.results.toList R)) : Calls Tryd.prog 31 #[(Value.int IntKind.u64 p0_m)] w R := calls_den okProg Tryd.func31 b31 n31 (Nat.le_of_ble_eq_true rfl) h
theorem t31 (p0_m : Int) (w : World) (R : Ending → World → Prop) : den Tryd.prog M31 c31 (argE 0 [(Value.int IntKind.u64 p0_m)]) w (retK Tryd.prog Tryd.f31.results.toList R) =
(Call Tryd.prog 36 [Value.int IntKind.u64 p0_m] w fun e w' =>
  ∃ p n c,
    e = Ending.returned (Value.slice p n c) ∧
      (((↑n : Int) == (0 : Int)) = true →
          R (Ending.returned (Value.tuple #[Value.int IntKind.i64 0, Value.int IntKind.i64 12])) w') ∧
        (((↑n : Int) == (0 : Int)) = false →
          ((0 : Int) ≤ IntKind.wrap IntKind.i64 ((↑n : Int) - (1 : Int)) ∧
              IntKind.wrap IntKind.i64 ((↑n : Int) - (1 : Int)) < (↑n : Int)) ∧
            ∃ a,
              p = some a ∧
                ∃ n_1,
                  World.cell? w'
                        (Addr.add a (Int.toNat (IntKind.wrap IntKind.i64 ((↑n : Int) - (1 : Int))) * 1)) =
                      some (Value.int IntKind.i64 n_1) ∧
                    R (Ending.returned (Value.tuple #[Value.int IntKind.i64 n_1, Value.int IntKind.i64 0])) w')) := by kernel_rfl
/-! davit/davitref01.Next -/
def M32 : Mt := { N := 30, keep := [(0, [0, 1]), (1, [0, 1, 6]), (2, [0, 1, 6, 7]), (3, [0, 1, 6, 7, 13]), (4, [0, 1, 6, 7]), (5, [0, 1, 6, 7, 21]), (6, [4, 5]), (7, [4, 5])], ords := [], bk := [(0, [0]), (1, [0, 1, 6, 7])], cuts := [(7, [0])], lk := [(3, [0, 1, 6, 7])] }
noncomputable def c32 : Code := bodyOf Tryd.f32
noncomputable def c32_0 : Code := c32.sr.sr.sr
noncomputable def c32_1 : Code := c32.sr.sr.sl.sr.sl.sl
def e32_0 (p0_m : Int) : Env := [(0, SV.v (Value.int IntKind.u64 p0_m))]
def e32_1 (p0_m : Int) (p1_cpu : Int) (p6_l_a : Option Addr) (p6_l_n : Nat) (p6_l_c : Nat) (p7_i : Int) : Env := [(0, SV.v (Value.int IntKind.u64 p0_m)), (1, SV.v (Value.int IntKind.i64 p1_cpu)), (6, SV.v (Value.slice p6_l_a p6_l_n p6_l_c)), (7, SV.v (Value.int IntKind.i64 p7_i))]
def k32_0 (R : Ending → World → Prop) : Cont := retK Tryd.prog Tryd.f32.results.toList R
def k32_1 (R : Ending → World → Prop) : Cont := blockK 0 [0] (seqK (fun E w => cutB (findL M32.cuts (headReg c32_0)) Tryd.prog M32 c32_0 E w (retK Tryd.prog Tryd.f32.results.toList R) fun E => den Tryd.prog M32 c32_0 E w (retK Tryd.prog Tryd.f32.results.toList R)) (retK Tryd.prog Tryd.f32.results.toList R))
theorem b32 : Tryd.f32.body = some c32 := by kernel_rfl
theorem n32 : Tryd.f32.ntmps = M32.N := by kernel_rfl
theorem u32 {p0_m : Int} {p1_cpu : Int} {w : World} {R : Ending → World → Prop} (h : den Tryd.prog M32 c32 (argE 0 [(Value.int IntKind.u64 p0_m), (Value.int IntKind.i64 p1_cpu)]) w (retK Tryd.prog Tryd.f32.results.toList R)) : Calls Tryd.prog 32 #[(Value.int IntKind.u64 p0_m), (Value.int IntKind.i64 p1_cpu)] w R := calls_den okProg Tryd.func32 b32 n32 (Nat.le_of_ble_eq_true rfl) h
theorem t32 (p0_m : Int) (p1_cpu : Int) (w : World) (R : Ending → World → Prop) : den Tryd.prog M32 c32 (argE 0 [(Value.int IntKind.u64 p0_m), (Value.int IntKind.i64 p1_cpu)]) w (retK Tryd.prog Tryd.f32.results.toList R) =
(Call Tryd.prog 36 [Value.int IntKind.u64 p0_m] w fun e w' =>
  ∃ p n c,
    e = Ending.returned (Value.slice p n c) ∧
      Cut (WP Tryd.prog 30 (Code.loop c32_1) (e32_1 p0_m p1_cpu p n c (0 : Int)) w' (k32_1 R))) := by kernel_rfl
theorem t32_0 (p0_m : Int) (w : World) (R : Ending → World → Prop) : den Tryd.prog M32 c32_0 (e32_0 p0_m) w (k32_0 R) =
(Call Tryd.prog 29 [Value.int IntKind.u64 p0_m] w fun e w' =>
  ∃ n n_1,
    e = Ending.returned (Value.tuple #[Value.int IntKind.i64 n, Value.int IntKind.i64 n_1]) ∧
      R (Ending.returned (Value.tuple #[Value.int IntKind.i64 n, Value.int IntKind.i64 n_1])) w') := by kernel_rfl
theorem t32_1 (p0_m : Int) (p1_cpu : Int) (p6_l_a : Option Addr) (p6_l_n : Nat) (p6_l_c : Nat) (p7_i : Int) (w : World) (B32_1 : Env → World → Prop) (R : Ending → World → Prop) : den Tryd.prog M32 c32_1 (e32_1 p0_m p1_cpu p6_l_a p6_l_n p6_l_c p7_i) w (loopK B32_1 (k32_1 R)) =
((decide (p7_i < (↑p6_l_n : Int)) = true →
    ((0 : Int) ≤ p7_i ∧ p7_i < (↑p6_l_n : Int)) ∧
      ∃ a,
        p6_l_a = some a ∧
          ∃ n,
            World.cell? w (Addr.add a (Int.toNat p7_i * 1)) = some (Value.int IntKind.i64 n) ∧
              (decide (n > p1_cpu) = true →
                  ((0 : Int) ≤ p7_i ∧ p7_i < (↑p6_l_n : Int)) ∧
                    ∃ a,
                      p6_l_a = some a ∧
                        ∃ n,
                          World.cell? w (Addr.add a (Int.toNat p7_i * 1)) = some (Value.int IntKind.i64 n) ∧
                            R
                              (Ending.returned
                                (Value.tuple #[Value.int IntKind.i64 n, Value.int IntKind.i64 0]))
                              w) ∧
                (decide (n > p1_cpu) = false →
                  B32_1
                    [(0, SV.v (Value.int IntKind.u64 p0_m)), (1, SV.v (Value.int IntKind.i64 p1_cpu)),
                      (6, SV.v (Value.slice p6_l_a p6_l_n p6_l_c)),
                      (7, SV.v (Value.int IntKind.i64 (IntKind.wrap IntKind.i64 (p7_i + (1 : Int)))))]
                    w)) ∧
  (decide (p7_i < (↑p6_l_n : Int)) = false → CutD Tryd.prog M32 c32_0 (e32_0 p0_m) w (k32_0 R))) := by kernel_rfl
/-! (davit/mask.Mask).List -/
def M33 : Mt := { N := 16, keep := [(0, [0]), (1, [0, 3]), (2, [0, 3, 5]), (3, [0, 3]), (4, [0, 3]), (5, [2])], ords := [], bk := [(0, [3]), (1, [0, 3])], cuts := [], lk := [(2, [0, 3])] }
noncomputable def c33 : Code := bodyOf Tryd.f33
noncomputable def c33_0 : Code := c33.sr.sr.sr
noncomputable def c33_1 : Code := c33.sr.sr.sl.sl.sl
def e33_1 (p0_m : Int) (p3_l_a : Option Addr) (p3_l_n : Nat) (p3_l_c : Nat) : Env := [(0, SV.v (Value.int IntKind.u64 p0_m)), (3, SV.v (Value.slice p3_l_a p3_l_n p3_l_c))]
def k33_1 (R : Ending → World → Prop) : Cont := blockK 0 [3] (seqK (fun E w => cutB (findL M33.cuts (headReg c33_0)) Tryd.prog M33 c33_0 E w (retK Tryd.prog Tryd.f33.results.toList R) fun E => den Tryd.prog M33 c33_0 E w (retK Tryd.prog Tryd.f33.results.toList R)) (retK Tryd.prog Tryd.f33.results.toList R))
theorem b33 : Tryd.f33.body = some c33 := by kernel_rfl
theorem n33 : Tryd.f33.ntmps = M33.N := by kernel_rfl
theorem u33 {p0_m : Int} {w : World} {R : Ending → World → Prop} (h : den Tryd.prog M33 c33 (argE 0 [(Value.int IntKind.u64 p0_m)]) w (retK Tryd.prog Tryd.f33.results.toList R)) : Calls Tryd.prog 33 #[(Value.int IntKind.u64 p0_m)] w R := calls_den okProg Tryd.func33 b33 n33 (Nat.le_of_ble_eq_true rfl) h
theorem t33 (p0_m : Int) (w : World) (R : Ending → World → Prop) : den Tryd.prog M33 c33 (argE 0 [(Value.int IntKind.u64 p0_m)]) w (retK Tryd.prog Tryd.f33.results.toList R) =
(Cut (WP Tryd.prog 16 (Code.loop c33_1) (e33_1 p0_m none 0 0) w (k33_1 R))) := by kernel_rfl
theorem t33_1 (p0_m : Int) (p3_l_a : Option Addr) (p3_l_n : Nat) (p3_l_c : Nat) (w : World) (B33_1 : Env → World → Prop) (R : Ending → World → Prop) : den Tryd.prog M33 c33_1 (e33_1 p0_m p3_l_a p3_l_n p3_l_c) w (loopK B33_1 (k33_1 R)) =
(((p0_m != (0 : Int)) = true →
    Call Tryd.prog 39 [Value.int IntKind.u64 p0_m] w fun e w' =>
      ∃ n,
        e = Ending.returned (Value.int IntKind.i64 n) ∧
          New w' [Value.int IntKind.i64 n] 3 fun p w' =>
            ∃ p_1 n c w'_1,
              Sem.run Tryd.prog
                    (Builtin.append_ #[23, 23] 23
                      #[Value.slice p3_l_a p3_l_n p3_l_c, Value.slice (some p) 1 1])
                    w' =
                  Result.ok (Value.slice p_1 n c) w'_1 ∧
                B33_1
                  [(0,
                      SV.v
                        (Value.int IntKind.u64
                          (bitsOp BinOp.and IntKind.u64 p0_m (IntKind.wrap IntKind.u64 (p0_m - (1 : Int)))))),
                    (3, SV.v (Value.slice p_1 n c))]
                  w'_1) ∧
  ((p0_m != (0 : Int)) = false → R (Ending.returned (Value.slice p3_l_a p3_l_n p3_l_c)) w)) := by kernel_rfl
/-! davit/davitref01.Many -/
def M34 : Mt := { N := 6, keep := [(0, [0]), (1, [2])], ords := [], bk := [], cuts := [], lk := [] }
noncomputable def c34 : Code := bodyOf Tryd.f34
theorem b34 : Tryd.f34.body = some c34 := by kernel_rfl
theorem n34 : Tryd.f34.ntmps = M34.N := by kernel_rfl
theorem u34 {p0_m : Int} {w : World} {R : Ending → World → Prop} (h : den Tryd.prog M34 c34 (argE 0 [(Value.int IntKind.u64 p0_m)]) w (retK Tryd.prog Tryd.f34.results.toList R)) : Calls Tryd.prog 34 #[(Value.int IntKind.u64 p0_m)] w R := calls_den okProg Tryd.func34 b34 n34 (Nat.le_of_ble_eq_true rfl) h
theorem t34 (p0_m : Int) (w : World) (R : Ending → World → Prop) : den Tryd.prog M34 c34 (argE 0 [(Value.int IntKind.u64 p0_m)]) w (retK Tryd.prog Tryd.f34.results.toList R) =
(Call Tryd.prog 36 [Value.int IntKind.u64 p0_m] w fun e w' =>
  ∃ p n c, e = Ending.returned (Value.slice p n c) ∧ R (Ending.returned (Value.int IntKind.i64 (↑n : Int))) w') := by kernel_rfl
/-! davit/davitref01.Ints -/
def M35 : Mt := { N := 26, keep := [(0, [0, 1]), (1, [0, 1, 10]), (2, [4]), (3, [0, 1, 5]), (4, [0, 1, 5, 14]), (5, [0, 1, 5]), (6, [0, 1, 5, 25]), (7, [4]), (8, [4])], ords := [(6, [0, 1, 2, 3, 4, 5, 6, 7, 8])], bk := [(0, []), (1, [0, 1, 5])], cuts := [], lk := [(4, [0, 1, 5])] }
noncomputable def c35 : Code := bodyOf Tryd.f35
noncomputable def c35_0 : Code := c35.sr.sr.sr
noncomputable def c35_1 : Code := c35.sr.sr.sl.sr.sl.sl
def e35_1 (p0_a_a : Option Addr) (p0_a_n : Nat) (p0_a_c : Nat) (p1_b_a : Option Addr) (p1_b_n : Nat) (p1_b_c : Nat) (p5_i : Int) : Env := [(0, SV.v (Value.slice p0_a_a p0_a_n p0_a_c)), (1, SV.v (Value.slice p1_b_a p1_b_n p1_b_c)), (5, SV.v (Value.int IntKind.i64 p5_i))]
def k35_1 (R : Ending → World → Prop) : Cont := blockK 0 [] (seqK (fun E w => cutB (findL M35.cuts (headReg c35_0)) Tryd.prog M35 c35_0 E w (retK Tryd.prog Tryd.f35.results.toList R) fun E => den Tryd.prog M35 c35_0 E w (retK Tryd.prog Tryd.f35.results.toList R)) (retK Tryd.prog Tryd.f35.results.toList R))
theorem b35 : Tryd.f35.body = some c35 := by kernel_rfl
theorem n35 : Tryd.f35.ntmps = M35.N := by kernel_rfl
theorem u35 {p0_a_a : Option Addr} {p0_a_n : Nat} {p0_a_c : Nat} {p1_b_a : Option Addr} {p1_b_n : Nat} {p1_b_c : Nat} {w : World} {R : Ending → World → Prop} (h : den Tryd.prog M35 c35 (argE 0 [(Value.slice p0_a_a p0_a_n p0_a_c), (Value.slice p1_b_a p1_b_n p1_b_c)]) w (retK Tryd.prog Tryd.f35.results.toList R)) : Calls Tryd.prog 35 #[(Value.slice p0_a_a p0_a_n p0_a_c), (Value.slice p1_b_a p1_b_n p1_b_c)] w R := calls_den okProg Tryd.func35 b35 n35 (Nat.le_of_ble_eq_true rfl) h
theorem t35 (p0_a_a : Option Addr) (p0_a_n : Nat) (p0_a_c : Nat) (p1_b_a : Option Addr) (p1_b_n : Nat) (p1_b_c : Nat) (w : World) (R : Ending → World → Prop) : den Tryd.prog M35 c35 (argE 0 [(Value.slice p0_a_a p0_a_n p0_a_c), (Value.slice p1_b_a p1_b_n p1_b_c)]) w (retK Tryd.prog Tryd.f35.results.toList R) =
((((↑p0_a_n : Int) != (↑p1_b_n : Int)) = true → R (Ending.returned (Value.bool false)) w) ∧
  (((↑p0_a_n : Int) != (↑p1_b_n : Int)) = false →
    Cut
      (WP Tryd.prog 26 (Code.loop c35_1) (e35_1 p0_a_a p0_a_n p0_a_c p1_b_a p1_b_n p1_b_c (0 : Int)) w
        (k35_1 R)))) := by kernel_rfl
theorem t35_1 (p0_a_a : Option Addr) (p0_a_n : Nat) (p0_a_c : Nat) (p1_b_a : Option Addr) (p1_b_n : Nat) (p1_b_c : Nat) (p5_i : Int) (w : World) (B35_1 : Env → World → Prop) (R : Ending → World → Prop) : den Tryd.prog M35 c35_1 (e35_1 p0_a_a p0_a_n p0_a_c p1_b_a p1_b_n p1_b_c p5_i) w (loopK B35_1 (k35_1 R)) =
((decide (p5_i < (↑p0_a_n : Int)) = true →
    ∀ (w' : World),
      World.heap w' = World.heap w →
        World.os w' = World.os w →
          World.tape w' = World.tape w →
            World.output w' = World.output w →
              ((0 : Int) ≤ p5_i ∧ p5_i < (↑p0_a_n : Int)) ∧
                ∃ a,
                  p0_a_a = some a ∧
                    ∃ n,
                      World.cell? w' (Addr.add a (Int.toNat p5_i * 1)) = some (Value.int IntKind.i64 n) ∧
                        ((0 : Int) ≤ p5_i ∧ p5_i < (↑p1_b_n : Int)) ∧
                          ∃ a,
                            p1_b_a = some a ∧
                              ∃ n_1,
                                World.cell? w' (Addr.add a (Int.toNat p5_i * 1)) =
                                    some (Value.int IntKind.i64 n_1) ∧
                                  ((n != n_1) = true → R (Ending.returned (Value.bool false)) w') ∧
                                    ((n != n_1) = false →
                                      B35_1
                                        [(0, SV.v (Value.slice p0_a_a p0_a_n p0_a_c)),
                                          (1, SV.v (Value.slice p1_b_a p1_b_n p1_b_c)),
                                          (5,
                                            SV.v
                                              (Value.int IntKind.i64 (IntKind.wrap IntKind.i64 (p5_i + (1 : Int)))))]
                                        w')) ∧
  (decide (p5_i < (↑p0_a_n : Int)) = false → R (Ending.returned (Value.bool true)) w)) := by kernel_rfl
/-! davit/davitref01.List -/
def M36 : Mt := { N := 17, keep := [(0, [0]), (1, [0, 3]), (2, [0, 3, 4]), (3, [0, 3, 4, 6]), (4, [0, 3, 4]), (5, [0, 3, 4, 11]), (6, [0, 3, 4]), (7, [2])], ords := [], bk := [(0, [3]), (1, [0, 3, 4])], cuts := [], lk := [(3, [0, 3, 4])] }
noncomputable def c36 : Code := bodyOf Tryd.f36
noncomputable def c36_0 : Code := c36.sr.sr.sr
noncomputable def c36_1 : Code := c36.sr.sr.sl.sr.sl.sl
def e36_1 (p0_m : Int) (p3_out_a : Option Addr) (p3_out_n : Nat) (p3_out_c : Nat) (p4_i : Int) : Env := [(0, SV.v (Value.int IntKind.u64 p0_m)), (3, SV.v (Value.slice p3_out_a p3_out_n p3_out_c)), (4, SV.v (Value.int IntKind.i64 p4_i))]
def k36_1 (R : Ending → World → Prop) : Cont := blockK 0 [3] (seqK (fun E w => cutB (findL M36.cuts (headReg c36_0)) Tryd.prog M36 c36_0 E w (retK Tryd.prog Tryd.f36.results.toList R) fun E => den Tryd.prog M36 c36_0 E w (retK Tryd.prog Tryd.f36.results.toList R)) (retK Tryd.prog Tryd.f36.results.toList R))
theorem b36 : Tryd.f36.body = some c36 := by kernel_rfl
theorem n36 : Tryd.f36.ntmps = M36.N := by kernel_rfl
theorem u36 {p0_m : Int} {w : World} {R : Ending → World → Prop} (h : den Tryd.prog M36 c36 (argE 0 [(Value.int IntKind.u64 p0_m)]) w (retK Tryd.prog Tryd.f36.results.toList R)) : Calls Tryd.prog 36 #[(Value.int IntKind.u64 p0_m)] w R := calls_den okProg Tryd.func36 b36 n36 (Nat.le_of_ble_eq_true rfl) h
theorem t36 (p0_m : Int) (w : World) (R : Ending → World → Prop) : den Tryd.prog M36 c36 (argE 0 [(Value.int IntKind.u64 p0_m)]) w (retK Tryd.prog Tryd.f36.results.toList R) =
(Cut (WP Tryd.prog 17 (Code.loop c36_1) (e36_1 p0_m none 0 0 (0 : Int)) w (k36_1 R))) := by kernel_rfl
theorem t36_1 (p0_m : Int) (p3_out_a : Option Addr) (p3_out_n : Nat) (p3_out_c : Nat) (p4_i : Int) (w : World) (B36_1 : Env → World → Prop) (R : Ending → World → Prop) : den Tryd.prog M36 c36_1 (e36_1 p0_m p3_out_a p3_out_n p3_out_c p4_i) w (loopK B36_1 (k36_1 R)) =
((decide (p4_i < (64 : Int)) = true →
    Call Tryd.prog 18 [Value.int IntKind.u64 p0_m, Value.int IntKind.i64 p4_i] w fun e w' =>
      ∃ b,
        e = Ending.returned (Value.bool b) ∧
          (b = true →
              New w' [Value.int IntKind.i64 p4_i] 3 fun p w' =>
                ∃ p_1 n c w'_1,
                  Sem.run Tryd.prog
                        (Builtin.append_ #[23, 23] 23
                          #[Value.slice p3_out_a p3_out_n p3_out_c, Value.slice (some p) 1 1])
                        w' =
                      Result.ok (Value.slice p_1 n c) w'_1 ∧
                    B36_1
                      [(0, SV.v (Value.int IntKind.u64 p0_m)), (3, SV.v (Value.slice p_1 n c)),
                        (4, SV.v (Value.int IntKind.i64 (IntKind.wrap IntKind.i64 (p4_i + (1 : Int)))))]
                      w'_1) ∧
            (b = false →
              B36_1
                [(0, SV.v (Value.int IntKind.u64 p0_m)),
                  (3, SV.v (Value.slice p3_out_a p3_out_n p3_out_c)),
                  (4, SV.v (Value.int IntKind.i64 (IntKind.wrap IntKind.i64 (p4_i + (1 : Int)))))]
                w')) ∧
  (decide (p4_i < (64 : Int)) = false → R (Ending.returned (Value.slice p3_out_a p3_out_n p3_out_c)) w)) := by kernel_rfl
/-! davit/mask.one -/
def M37 : Mt := { N := 11, keep := [(0, [0]), (1, [0, 8]), (2, [2]), (3, [2])], ords := [], bk := [], cuts := [], lk := [] }
noncomputable def c37 : Code := bodyOf Tryd.f37
theorem b37 : Tryd.f37.body = some c37 := by kernel_rfl
theorem n37 : Tryd.f37.ntmps = M37.N := by kernel_rfl
theorem u37 {p0_cpu : Int} {w : World} {R : Ending → World → Prop} (h : den Tryd.prog M37 c37 (argE 0 [(Value.int IntKind.i64 p0_cpu)]) w (retK Tryd.prog Tryd.f37.results.toList R)) : Calls Tryd.prog 37 #[(Value.int IntKind.i64 p0_cpu)] w R := calls_den okProg Tryd.func37 b37 n37 (Nat.le_of_ble_eq_true rfl) h
theorem t37 (p0_cpu : Int) (w : World) (R : Ending → World → Prop) : den Tryd.prog M37 c37 (argE 0 [(Value.int IntKind.i64 p0_cpu)]) w (retK Tryd.prog Tryd.f37.results.toList R) =
((decide (p0_cpu < (0 : Int)) = false →
    (decide (p0_cpu ≥ (64 : Int)) = true → R (Ending.returned (Value.int IntKind.u64 0)) w) ∧
      (decide (p0_cpu ≥ (64 : Int)) = false →
        (0 : Int) ≤ p0_cpu ∧ R (Ending.returned (Value.int IntKind.u64 (shlOp IntKind.u64 (1 : Int) p0_cpu))) w)) ∧
  (decide (p0_cpu < (0 : Int)) = true → R (Ending.returned (Value.int IntKind.u64 0)) w)) := by kernel_rfl
/-! math/bits.OnesCount64 -/
def M38 : Mt := { N := 35, keep := [(0, [0]), (1, [0]), (2, [0]), (3, [0]), (4, [0]), (5, [0]), (6, [0]), (7, [2])], ords := [], bk := [], cuts := [], lk := [] }
noncomputable def c38 : Code := bodyOf Tryd.f38
theorem b38 : Tryd.f38.body = some c38 := by kernel_rfl
theorem n38 : Tryd.f38.ntmps = M38.N := by kernel_rfl
theorem u38 {p0_x : Int} {w : World} {R : Ending → World → Prop} (h : den Tryd.prog M38 c38 (argE 0 [(Value.int IntKind.u64 p0_x)]) w (retK Tryd.prog Tryd.f38.results.toList R)) : Calls Tryd.prog 38 #[(Value.int IntKind.u64 p0_x)] w R := calls_den okProg Tryd.func38 b38 n38 (Nat.le_of_ble_eq_true rfl) h
theorem t38 (p0_x : Int) (w : World) (R : Ending → World → Prop) : den Tryd.prog M38 c38 (argE 0 [(Value.int IntKind.u64 p0_x)]) w (retK Tryd.prog Tryd.f38.results.toList R) =
((0 : Int) ≤ (1 : Int) ∧
  (0 : Int) ≤ (2 : Int) ∧
    (0 : Int) ≤ (4 : Int) ∧
      (0 : Int) ≤ (8 : Int) ∧
        (0 : Int) ≤ (16 : Int) ∧
          (0 : Int) ≤ (32 : Int) ∧
            R
              (Ending.returned
                (Value.int IntKind.i64
                  (bitsOp BinOp.and IntKind.i64
                    (IntKind.wrap IntKind.i64
                      (IntKind.wrap IntKind.u64
                        (IntKind.wrap IntKind.u64
                            (IntKind.wrap IntKind.u64
                                (bitsOp BinOp.and IntKind.u64
                                    (IntKind.wrap IntKind.u64
                                      (shrOp IntKind.u64
                                          (IntKind.wrap IntKind.u64
                                            (bitsOp BinOp.and IntKind.u64
                                                (shrOp IntKind.u64
                                                  (IntKind.wrap IntKind.u64
                                                    (bitsOp BinOp.and IntKind.u64 (shrOp IntKind.u64 p0_x (1 : Int))
                                                        (6148914691236517205 : Int) +
                                                      bitsOp BinOp.and IntKind.u64 p0_x (6148914691236517205 : Int)))
                                                  (2 : Int))
                                                (3689348814741910323 : Int) +
                                              bitsOp BinOp.and IntKind.u64
                                                (IntKind.wrap IntKind.u64
                                                  (bitsOp BinOp.and IntKind.u64 (shrOp IntKind.u64 p0_x (1 : Int))
                                                      (6148914691236517205 : Int) +
                                                    bitsOp BinOp.and IntKind.u64 p0_x (6148914691236517205 : Int)))
                                                (3689348814741910323 : Int)))
                                          (4 : Int) +
                                        IntKind.wrap IntKind.u64
                                          (bitsOp BinOp.and IntKind.u64
                                              (shrOp IntKind.u64
                                                (IntKind.wrap IntKind.u64
                                                  (bitsOp BinOp.and IntKind.u64 (shrOp IntKind.u64 p0_x (1 : Int))
                                                      (6148914691236517205 : Int) +
                                                    bitsOp BinOp.and IntKind.u64 p0_x (6148914691236517205 : Int)))
                                                (2 : Int))
                                              (3689348814741910323 : Int) +
                                            bitsOp BinOp.and IntKind.u64
                                              (IntKind.wrap IntKind.u64
                                                (bitsOp BinOp.and IntKind.u64 (shrOp IntKind.u64 p0_x (1 : Int))
                                                    (6148914691236517205 : Int) +
                                                  bitsOp BinOp.and IntKind.u64 p0_x (6148914691236517205 : Int)))
                                              (3689348814741910323 : Int))))
                                    (1085102592571150095 : Int) +
                                  shrOp IntKind.u64
                                    (bitsOp BinOp.and IntKind.u64
                                      (IntKind.wrap IntKind.u64
                                        (shrOp IntKind.u64
                                            (IntKind.wrap IntKind.u64
                                              (bitsOp BinOp.and IntKind.u64
                                                  (shrOp IntKind.u64
                                                    (IntKind.wrap IntKind.u64
                                                      (bitsOp BinOp.and IntKind.u64 (shrOp IntKind.u64 p0_x (1 : Int))
                                                          (6148914691236517205 : Int) +
                                                        bitsOp BinOp.and IntKind.u64 p0_x (6148914691236517205 : Int)))
                                                    (2 : Int))
                                                  (3689348814741910323 : Int) +
                                                bitsOp BinOp.and IntKind.u64
                                                  (IntKind.wrap IntKind.u64
                                                    (bitsOp BinOp.and IntKind.u64 (shrOp IntKind.u64 p0_x (1 : Int))
                                                        (6148914691236517205 : Int) +
                                                      bitsOp BinOp.and IntKind.u64 p0_x (6148914691236517205 : Int)))
                                                  (3689348814741910323 : Int)))
                                            (4 : Int) +
                                          IntKind.wrap IntKind.u64
                                            (bitsOp BinOp.and IntKind.u64
                                                (shrOp IntKind.u64
                                                  (IntKind.wrap IntKind.u64
                                                    (bitsOp BinOp.and IntKind.u64 (shrOp IntKind.u64 p0_x (1 : Int))
                                                        (6148914691236517205 : Int) +
                                                      bitsOp BinOp.and IntKind.u64 p0_x (6148914691236517205 : Int)))
                                                  (2 : Int))
                                                (3689348814741910323 : Int) +
                                              bitsOp BinOp.and IntKind.u64
                                                (IntKind.wrap IntKind.u64
                                                  (bitsOp BinOp.and IntKind.u64 (shrOp IntKind.u64 p0_x (1 : Int))
                                                      (6148914691236517205 : Int) +
                                                    bitsOp BinOp.and IntKind.u64 p0_x (6148914691236517205 : Int)))
                                                (3689348814741910323 : Int))))
                                      (1085102592571150095 : Int))
                                    (8 : Int)) +
                              shrOp IntKind.u64
                                (IntKind.wrap IntKind.u64
                                  (bitsOp BinOp.and IntKind.u64
                                      (IntKind.wrap IntKind.u64
                                        (shrOp IntKind.u64
                                            (IntKind.wrap IntKind.u64
                                              (bitsOp BinOp.and IntKind.u64
                                                  (shrOp IntKind.u64
                                                    (IntKind.wrap IntKind.u64
                                                      (bitsOp BinOp.and IntKind.u64 (shrOp IntKind.u64 p0_x (1 : Int))
                                                          (6148914691236517205 : Int) +
                                                        bitsOp BinOp.and IntKind.u64 p0_x (6148914691236517205 : Int)))
                                                    (2 : Int))
                                                  (3689348814741910323 : Int) +
                                                bitsOp BinOp.and IntKind.u64
                                                  (IntKind.wrap IntKind.u64
                                                    (bitsOp BinOp.and IntKind.u64 (shrOp IntKind.u64 p0_x (1 : Int))
                                                        (6148914691236517205 : Int) +
                                                      bitsOp BinOp.and IntKind.u64 p0_x (6148914691236517205 : Int)))
                                                  (3689348814741910323 : Int)))
                                            (4 : Int) +
                                          IntKind.wrap IntKind.u64
                                            (bitsOp BinOp.and IntKind.u64
                                                (shrOp IntKind.u64
                                                  (IntKind.wrap IntKind.u64
                                                    (bitsOp BinOp.and IntKind.u64 (shrOp IntKind.u64 p0_x (1 : Int))
                                                        (6148914691236517205 : Int) +
                                                      bitsOp BinOp.and IntKind.u64 p0_x (6148914691236517205 : Int)))
                                                  (2 : Int))
                                                (3689348814741910323 : Int) +
                                              bitsOp BinOp.and IntKind.u64
                                                (IntKind.wrap IntKind.u64
                                                  (bitsOp BinOp.and IntKind.u64 (shrOp IntKind.u64 p0_x (1 : Int))
                                                      (6148914691236517205 : Int) +
                                                    bitsOp BinOp.and IntKind.u64 p0_x (6148914691236517205 : Int)))
                                                (3689348814741910323 : Int))))
                                      (1085102592571150095 : Int) +
                                    shrOp IntKind.u64
                                      (bitsOp BinOp.and IntKind.u64
                                        (IntKind.wrap IntKind.u64
                                          (shrOp IntKind.u64
                                              (IntKind.wrap IntKind.u64
                                                (bitsOp BinOp.and IntKind.u64
                                                    (shrOp IntKind.u64
                                                      (IntKind.wrap IntKind.u64
                                                        (bitsOp BinOp.and IntKind.u64
                                                            (shrOp IntKind.u64 p0_x (1 : Int))
                                                            (6148914691236517205 : Int) +
                                                          bitsOp BinOp.and IntKind.u64 p0_x
                                                            (6148914691236517205 : Int)))
                                                      (2 : Int))
                                                    (3689348814741910323 : Int) +
                                                  bitsOp BinOp.and IntKind.u64
                                                    (IntKind.wrap IntKind.u64
                                                      (bitsOp BinOp.and IntKind.u64 (shrOp IntKind.u64 p0_x (1 : Int))
                                                          (6148914691236517205 : Int) +
                                                        bitsOp BinOp.and IntKind.u64 p0_x (6148914691236517205 : Int)))
                                                    (3689348814741910323 : Int)))
                                              (4 : Int) +
                                            IntKind.wrap IntKind.u64
                                              (bitsOp BinOp.and IntKind.u64
                                                  (shrOp IntKind.u64
                                                    (IntKind.wrap IntKind.u64
                                                      (bitsOp BinOp.and IntKind.u64 (shrOp IntKind.u64 p0_x (1 : Int))
                                                          (6148914691236517205 : Int) +
                                                        bitsOp BinOp.and IntKind.u64 p0_x (6148914691236517205 : Int)))
                                                    (2 : Int))
                                                  (3689348814741910323 : Int) +
                                                bitsOp BinOp.and IntKind.u64
                                                  (IntKind.wrap IntKind.u64
                                                    (bitsOp BinOp.and IntKind.u64 (shrOp IntKind.u64 p0_x (1 : Int))
                                                        (6148914691236517205 : Int) +
                                                      bitsOp BinOp.and IntKind.u64 p0_x (6148914691236517205 : Int)))
                                                  (3689348814741910323 : Int))))
                                        (1085102592571150095 : Int))
                                      (8 : Int)))
                                (16 : Int)) +
                          shrOp IntKind.u64
                            (IntKind.wrap IntKind.u64
                              (IntKind.wrap IntKind.u64
                                  (bitsOp BinOp.and IntKind.u64
                                      (IntKind.wrap IntKind.u64
                                        (shrOp IntKind.u64
                                            (IntKind.wrap IntKind.u64
                                              (bitsOp BinOp.and IntKind.u64
                                                  (shrOp IntKind.u64
                                                    (IntKind.wrap IntKind.u64
                                                      (bitsOp BinOp.and IntKind.u64 (shrOp IntKind.u64 p0_x (1 : Int))
                                                          (6148914691236517205 : Int) +
                                                        bitsOp BinOp.and IntKind.u64 p0_x (6148914691236517205 : Int)))
                                                    (2 : Int))
                                                  (3689348814741910323 : Int) +
                                                bitsOp BinOp.and IntKind.u64
                                                  (IntKind.wrap IntKind.u64
                                                    (bitsOp BinOp.and IntKind.u64 (shrOp IntKind.u64 p0_x (1 : Int))
                                                        (6148914691236517205 : Int) +
                                                      bitsOp BinOp.and IntKind.u64 p0_x (6148914691236517205 : Int)))
                                                  (3689348814741910323 : Int)))
                                            (4 : Int) +
                                          IntKind.wrap IntKind.u64
                                            (bitsOp BinOp.and IntKind.u64
                                                (shrOp IntKind.u64
                                                  (IntKind.wrap IntKind.u64
                                                    (bitsOp BinOp.and IntKind.u64 (shrOp IntKind.u64 p0_x (1 : Int))
                                                        (6148914691236517205 : Int) +
                                                      bitsOp BinOp.and IntKind.u64 p0_x (6148914691236517205 : Int)))
                                                  (2 : Int))
                                                (3689348814741910323 : Int) +
                                              bitsOp BinOp.and IntKind.u64
                                                (IntKind.wrap IntKind.u64
                                                  (bitsOp BinOp.and IntKind.u64 (shrOp IntKind.u64 p0_x (1 : Int))
                                                      (6148914691236517205 : Int) +
                                                    bitsOp BinOp.and IntKind.u64 p0_x (6148914691236517205 : Int)))
                                                (3689348814741910323 : Int))))
                                      (1085102592571150095 : Int) +
                                    shrOp IntKind.u64
                                      (bitsOp BinOp.and IntKind.u64
                                        (IntKind.wrap IntKind.u64
                                          (shrOp IntKind.u64
                                              (IntKind.wrap IntKind.u64
                                                (bitsOp BinOp.and IntKind.u64
                                                    (shrOp IntKind.u64
                                                      (IntKind.wrap IntKind.u64
                                                        (bitsOp BinOp.and IntKind.u64
                                                            (shrOp IntKind.u64 p0_x (1 : Int))
                                                            (6148914691236517205 : Int) +
                                                          bitsOp BinOp.and IntKind.u64 p0_x
                                                            (6148914691236517205 : Int)))
                                                      (2 : Int))
                                                    (3689348814741910323 : Int) +
                                                  bitsOp BinOp.and IntKind.u64
                                                    (IntKind.wrap IntKind.u64
                                                      (bitsOp BinOp.and IntKind.u64 (shrOp IntKind.u64 p0_x (1 : Int))
                                                          (6148914691236517205 : Int) +
                                                        bitsOp BinOp.and IntKind.u64 p0_x (6148914691236517205 : Int)))
                                                    (3689348814741910323 : Int)))
                                              (4 : Int) +
                                            IntKind.wrap IntKind.u64
                                              (bitsOp BinOp.and IntKind.u64
                                                  (shrOp IntKind.u64
                                                    (IntKind.wrap IntKind.u64
                                                      (bitsOp BinOp.and IntKind.u64 (shrOp IntKind.u64 p0_x (1 : Int))
                                                          (6148914691236517205 : Int) +
                                                        bitsOp BinOp.and IntKind.u64 p0_x (6148914691236517205 : Int)))
                                                    (2 : Int))
                                                  (3689348814741910323 : Int) +
                                                bitsOp BinOp.and IntKind.u64
                                                  (IntKind.wrap IntKind.u64
                                                    (bitsOp BinOp.and IntKind.u64 (shrOp IntKind.u64 p0_x (1 : Int))
                                                        (6148914691236517205 : Int) +
                                                      bitsOp BinOp.and IntKind.u64 p0_x (6148914691236517205 : Int)))
                                                  (3689348814741910323 : Int))))
                                        (1085102592571150095 : Int))
                                      (8 : Int)) +
                                shrOp IntKind.u64
                                  (IntKind.wrap IntKind.u64
                                    (bitsOp BinOp.and IntKind.u64
                                        (IntKind.wrap IntKind.u64
                                          (shrOp IntKind.u64
                                              (IntKind.wrap IntKind.u64
                                                (bitsOp BinOp.and IntKind.u64
                                                    (shrOp IntKind.u64
                                                      (IntKind.wrap IntKind.u64
                                                        (bitsOp BinOp.and IntKind.u64
                                                            (shrOp IntKind.u64 p0_x (1 : Int))
                                                            (6148914691236517205 : Int) +
                                                          bitsOp BinOp.and IntKind.u64 p0_x
                                                            (6148914691236517205 : Int)))
                                                      (2 : Int))
                                                    (3689348814741910323 : Int) +
                                                  bitsOp BinOp.and IntKind.u64
                                                    (IntKind.wrap IntKind.u64
                                                      (bitsOp BinOp.and IntKind.u64 (shrOp IntKind.u64 p0_x (1 : Int))
                                                          (6148914691236517205 : Int) +
                                                        bitsOp BinOp.and IntKind.u64 p0_x (6148914691236517205 : Int)))
                                                    (3689348814741910323 : Int)))
                                              (4 : Int) +
                                            IntKind.wrap IntKind.u64
                                              (bitsOp BinOp.and IntKind.u64
                                                  (shrOp IntKind.u64
                                                    (IntKind.wrap IntKind.u64
                                                      (bitsOp BinOp.and IntKind.u64 (shrOp IntKind.u64 p0_x (1 : Int))
                                                          (6148914691236517205 : Int) +
                                                        bitsOp BinOp.and IntKind.u64 p0_x (6148914691236517205 : Int)))
                                                    (2 : Int))
                                                  (3689348814741910323 : Int) +
                                                bitsOp BinOp.and IntKind.u64
                                                  (IntKind.wrap IntKind.u64
                                                    (bitsOp BinOp.and IntKind.u64 (shrOp IntKind.u64 p0_x (1 : Int))
                                                        (6148914691236517205 : Int) +
                                                      bitsOp BinOp.and IntKind.u64 p0_x (6148914691236517205 : Int)))
                                                  (3689348814741910323 : Int))))
                                        (1085102592571150095 : Int) +
                                      shrOp IntKind.u64
                                        (bitsOp BinOp.and IntKind.u64
                                          (IntKind.wrap IntKind.u64
                                            (shrOp IntKind.u64
                                                (IntKind.wrap IntKind.u64
                                                  (bitsOp BinOp.and IntKind.u64
                                                      (shrOp IntKind.u64
                                                        (IntKind.wrap IntKind.u64
                                                          (bitsOp BinOp.and IntKind.u64
                                                              (shrOp IntKind.u64 p0_x (1 : Int))
                                                              (6148914691236517205 : Int) +
                                                            bitsOp BinOp.and IntKind.u64 p0_x
                                                              (6148914691236517205 : Int)))
                                                        (2 : Int))
                                                      (3689348814741910323 : Int) +
                                                    bitsOp BinOp.and IntKind.u64
                                                      (IntKind.wrap IntKind.u64
                                                        (bitsOp BinOp.and IntKind.u64
                                                            (shrOp IntKind.u64 p0_x (1 : Int))
                                                            (6148914691236517205 : Int) +
                                                          bitsOp BinOp.and IntKind.u64 p0_x
                                                            (6148914691236517205 : Int)))
                                                      (3689348814741910323 : Int)))
                                                (4 : Int) +
                                              IntKind.wrap IntKind.u64
                                                (bitsOp BinOp.and IntKind.u64
                                                    (shrOp IntKind.u64
                                                      (IntKind.wrap IntKind.u64
                                                        (bitsOp BinOp.and IntKind.u64
                                                            (shrOp IntKind.u64 p0_x (1 : Int))
                                                            (6148914691236517205 : Int) +
                                                          bitsOp BinOp.and IntKind.u64 p0_x
                                                            (6148914691236517205 : Int)))
                                                      (2 : Int))
                                                    (3689348814741910323 : Int) +
                                                  bitsOp BinOp.and IntKind.u64
                                                    (IntKind.wrap IntKind.u64
                                                      (bitsOp BinOp.and IntKind.u64 (shrOp IntKind.u64 p0_x (1 : Int))
                                                          (6148914691236517205 : Int) +
                                                        bitsOp BinOp.and IntKind.u64 p0_x (6148914691236517205 : Int)))
                                                    (3689348814741910323 : Int))))
                                          (1085102592571150095 : Int))
                                        (8 : Int)))
                                  (16 : Int)))
                            (32 : Int))))
                    (127 : Int))))
              w) := by kernel_rfl
/-! math/bits.TrailingZeros64 -/
def M39 : Mt := { N := 14, keep := [(0, [0]), (1, [0, 4]), (2, [2]), (3, [2])], ords := [], bk := [], cuts := [], lk := [] }
noncomputable def c39 : Code := bodyOf Tryd.f39
theorem b39 : Tryd.f39.body = some c39 := by kernel_rfl
theorem n39 : Tryd.f39.ntmps = M39.N := by kernel_rfl
theorem u39 {p0_x : Int} {w : World} {R : Ending → World → Prop} (h : den Tryd.prog M39 c39 (argE 0 [(Value.int IntKind.u64 p0_x)]) w (retK Tryd.prog Tryd.f39.results.toList R)) : Calls Tryd.prog 39 #[(Value.int IntKind.u64 p0_x)] w R := calls_den okProg Tryd.func39 b39 n39 (Nat.le_of_ble_eq_true rfl) h
set_option maxRecDepth 100000 in
theorem t39 (p0_x : Int) (w : World) (R : Ending → World → Prop) : den Tryd.prog M39 c39 (argE 0 [(Value.int IntKind.u64 p0_x)]) w (retK Tryd.prog Tryd.f39.results.toList R) =
(((p0_x == (0 : Int)) = true → R (Ending.returned (Value.int IntKind.i64 64)) w) ∧
  ((p0_x == (0 : Int)) = false → (0 : Int) ≤ (58 : Int) ∧ ((0 : Int) ≤ shrOp IntKind.u64 (IntKind.wrap IntKind.u64 (bitsOp BinOp.and IntKind.u64 p0_x (IntKind.wrap IntKind.u64 (0 - p0_x)) * 285870213051353865)) 58 ∧ shrOp IntKind.u64 (IntKind.wrap IntKind.u64 (bitsOp BinOp.and IntKind.u64 p0_x (IntKind.wrap IntKind.u64 (0 - p0_x)) * 285870213051353865)) 58 < ((64 : Nat) : Int)) ∧
    ∃ n, World.cell? w (Addr.add ⟨0, 0, none⟩ (Int.toNat (shrOp IntKind.u64 (IntKind.wrap IntKind.u64 (bitsOp BinOp.and IntKind.u64 p0_x (IntKind.wrap IntKind.u64 (0 - p0_x)) * 285870213051353865)) 58) * 1)) = some (Value.int IntKind.u8 n) ∧ R (Ending.returned (Value.int IntKind.i64 (IntKind.wrap IntKind.i64 n))) w)) := by kernel_rfl
/-! math/bits.Len64 -/
def M40 : Mt := { N := 25, keep := [(0, [0, 2]), (1, [0, 2, 4]), (2, [0]), (3, [0, 2]), (4, [0, 2, 8]), (5, [0, 2]), (6, [0, 2]), (7, [0, 2, 14]), (8, [0, 2]), (9, [0, 2]), (10, [2])], ords := [], bk := [], cuts := [(4, [0, 2]), (7, [0, 2])], lk := [] }
noncomputable def c40 : Code := bodyOf Tryd.f40
noncomputable def c40_0 : Code := c40.sr.sr
noncomputable def c40_1 : Code := c40.sr.sr.sr
def e40_0 (p0_x : Int) (p2_n : Int) : Env := [(0, SV.v (Value.int IntKind.u64 p0_x)), (2, SV.v (Value.int IntKind.i64 p2_n))]
def e40_1 (p0_x : Int) (p2_n : Int) : Env := [(0, SV.v (Value.int IntKind.u64 p0_x)), (2, SV.v (Value.int IntKind.i64 p2_n))]
def k40_0 (R : Ending → World → Prop) : Cont := retK Tryd.prog Tryd.f40.results.toList R
def k40_1 (R : Ending → World → Prop) : Cont := retK Tryd.prog Tryd.f40.results.toList R
theorem b40 : Tryd.f40.body = some c40 := by kernel_rfl
theorem n40 : Tryd.f40.ntmps = M40.N := by kernel_rfl
theorem u40 {p0_x : Int} {w : World} {R : Ending → World → Prop} (h : den Tryd.prog M40 c40 (argE 0 [(Value.int IntKind.u64 p0_x)]) w (retK Tryd.prog Tryd.f40.results.toList R)) : Calls Tryd.prog 40 #[(Value.int IntKind.u64 p0_x)] w R := calls_den okProg Tryd.func40 b40 n40 (Nat.le_of_ble_eq_true rfl) h
theorem t40 (p0_x : Int) (w : World) (R : Ending → World → Prop) : den Tryd.prog M40 c40 (argE 0 [(Value.int IntKind.u64 p0_x)]) w (retK Tryd.prog Tryd.f40.results.toList R) =
((decide (p0_x ≥ (4294967296 : Int)) = true →
    (0 : Int) ≤ (32 : Int) ∧
      CutD Tryd.prog M40 c40_0 (e40_0 (shrOp IntKind.u64 p0_x (32 : Int)) (32 : Int)) w (k40_0 R)) ∧
  (decide (p0_x ≥ (4294967296 : Int)) = false → CutD Tryd.prog M40 c40_0 (e40_0 p0_x (0 : Int)) w (k40_0 R))) := by kernel_rfl
theorem t40_0 (p0_x : Int) (p2_n : Int) (w : World) (R : Ending → World → Prop) : den Tryd.prog M40 c40_0 (e40_0 p0_x p2_n) w (k40_0 R) =
((decide (p0_x ≥ (65536 : Int)) = true →
    (0 : Int) ≤ (16 : Int) ∧
      CutD Tryd.prog M40 c40_1
        (e40_1 (shrOp IntKind.u64 p0_x (16 : Int)) (IntKind.wrap IntKind.i64 (p2_n + (16 : Int)))) w (k40_1 R)) ∧
  (decide (p0_x ≥ (65536 : Int)) = false → CutD Tryd.prog M40 c40_1 (e40_1 p0_x p2_n) w (k40_1 R))) := by kernel_rfl
theorem t40_1 (p0_x : Int) (p2_n : Int) (w : World) (R : Ending → World → Prop) : den Tryd.prog M40 c40_1 (e40_1 p0_x p2_n) w (k40_1 R) =
((decide (p0_x ≥ (256 : Int)) = true →
    (0 : Int) ≤ (8 : Int) ∧
      ((0 : Int) ≤ IntKind.wrap IntKind.u8 (shrOp IntKind.u64 p0_x (8 : Int)) ∧
          IntKind.wrap IntKind.u8 (shrOp IntKind.u64 p0_x (8 : Int)) < (↑256 : Int)) ∧
        ∃ c,
          (∃ u,
              (ByteArray.mk #[(0 : UInt8), (1 : UInt8), (2 : UInt8), (2 : UInt8), (3 : UInt8), (3 : UInt8), (3 : UInt8),
                          (3 : UInt8), (4 : UInt8), (4 : UInt8), (4 : UInt8), (4 : UInt8), (4 : UInt8), (4 : UInt8),
                          (4 : UInt8), (4 : UInt8), (5 : UInt8), (5 : UInt8), (5 : UInt8), (5 : UInt8), (5 : UInt8),
                          (5 : UInt8), (5 : UInt8), (5 : UInt8), (5 : UInt8), (5 : UInt8), (5 : UInt8), (5 : UInt8),
                          (5 : UInt8), (5 : UInt8), (5 : UInt8), (5 : UInt8), (6 : UInt8), (6 : UInt8), (6 : UInt8),
                          (6 : UInt8), (6 : UInt8), (6 : UInt8), (6 : UInt8), (6 : UInt8), (6 : UInt8), (6 : UInt8),
                          (6 : UInt8), (6 : UInt8), (6 : UInt8), (6 : UInt8), (6 : UInt8), (6 : UInt8), (6 : UInt8),
                          (6 : UInt8), (6 : UInt8), (6 : UInt8), (6 : UInt8), (6 : UInt8), (6 : UInt8), (6 : UInt8),
                          (6 : UInt8), (6 : UInt8), (6 : UInt8), (6 : UInt8), (6 : UInt8), (6 : UInt8), (6 : UInt8),
                          (6 : UInt8), (7 : UInt8), (7 : UInt8), (7 : UInt8), (7 : UInt8), (7 : UInt8), (7 : UInt8),
                          (7 : UInt8), (7 : UInt8), (7 : UInt8), (7 : UInt8), (7 : UInt8), (7 : UInt8), (7 : UInt8),
                          (7 : UInt8), (7 : UInt8), (7 : UInt8), (7 : UInt8), (7 : UInt8), (7 : UInt8), (7 : UInt8),
                          (7 : UInt8), (7 : UInt8), (7 : UInt8), (7 : UInt8), (7 : UInt8), (7 : UInt8), (7 : UInt8),
                          (7 : UInt8), (7 : UInt8), (7 : UInt8), (7 : UInt8), (7 : UInt8), (7 : UInt8), (7 : UInt8),
                          (7 : UInt8), (7 : UInt8), (7 : UInt8), (7 : UInt8), (7 : UInt8), (7 : UInt8), (7 : UInt8),
                          (7 : UInt8), (7 : UInt8), (7 : UInt8), (7 : UInt8), (7 : UInt8), (7 : UInt8), (7 : UInt8),
                          (7 : UInt8), (7 : UInt8), (7 : UInt8), (7 : UInt8), (7 : UInt8), (7 : UInt8), (7 : UInt8),
                          (7 : UInt8), (7 : UInt8), (7 : UInt8), (7 : UInt8), (7 : UInt8), (7 : UInt8), (7 : UInt8),
                          (7 : UInt8), (7 : UInt8), (8 : UInt8), (8 : UInt8), (8 : UInt8), (8 : UInt8), (8 : UInt8),
                          (8 : UInt8), (8 : UInt8), (8 : UInt8), (8 : UInt8), (8 : UInt8), (8 : UInt8), (8 : UInt8),
                          (8 : UInt8), (8 : UInt8), (8 : UInt8), (8 : UInt8), (8 : UInt8), (8 : UInt8), (8 : UInt8),
                          (8 : UInt8), (8 : UInt8), (8 : UInt8), (8 : UInt8), (8 : UInt8), (8 : UInt8), (8 : UInt8),
                          (8 : UInt8), (8 : UInt8), (8 : UInt8), (8 : UInt8), (8 : UInt8), (8 : UInt8), (8 : UInt8),
                          (8 : UInt8), (8 : UInt8), (8 : UInt8), (8 : UInt8), (8 : UInt8), (8 : UInt8), (8 : UInt8),
                          (8 : UInt8), (8 : UInt8), (8 : UInt8), (8 : UInt8), (8 : UInt8), (8 : UInt8), (8 : UInt8),
                          (8 : UInt8), (8 : UInt8), (8 : UInt8), (8 : UInt8), (8 : UInt8), (8 : UInt8), (8 : UInt8),
                          (8 : UInt8), (8 : UInt8), (8 : UInt8), (8 : UInt8), (8 : UInt8), (8 : UInt8), (8 : UInt8),
                          (8 : UInt8), (8 : UInt8), (8 : UInt8), (8 : UInt8), (8 : UInt8), (8 : UInt8), (8 : UInt8),
                          (8 : UInt8), (8 : UInt8), (8 : UInt8), (8 : UInt8), (8 : UInt8), (8 : UInt8), (8 : UInt8),
                          (8 : UInt8), (8 : UInt8), (8 : UInt8), (8 : UInt8), (8 : UInt8), (8 : UInt8), (8 : UInt8),
                          (8 : UInt8), (8 : UInt8), (8 : UInt8), (8 : UInt8), (8 : UInt8), (8 : UInt8), (8 : UInt8),
                          (8 : UInt8), (8 : UInt8), (8 : UInt8), (8 : UInt8), (8 : UInt8), (8 : UInt8), (8 : UInt8),
                          (8 : UInt8), (8 : UInt8), (8 : UInt8), (8 : UInt8), (8 : UInt8), (8 : UInt8), (8 : UInt8),
                          (8 : UInt8), (8 : UInt8), (8 : UInt8), (8 : UInt8), (8 : UInt8), (8 : UInt8), (8 : UInt8),
                          (8 : UInt8), (8 : UInt8), (8 : UInt8), (8 : UInt8), (8 : UInt8), (8 : UInt8), (8 : UInt8),
                          (8 : UInt8), (8 : UInt8), (8 : UInt8), (8 : UInt8), (8 : UInt8), (8 : UInt8), (8 : UInt8),
                          (8 : UInt8), (8 : UInt8), (8 : UInt8),
                          (8 : UInt8)])[Int.toNat (IntKind.wrap IntKind.u8 (shrOp IntKind.u64 p0_x (8 : Int)))]? =
                  some u ∧
                (↑(UInt8.toNat u) : Int) = c) ∧
            R
              (Ending.returned
                (Value.int IntKind.i64
                  (IntKind.wrap IntKind.i64
                    (IntKind.wrap IntKind.i64 (p2_n + (8 : Int)) + IntKind.wrap IntKind.i64 c))))
              w) ∧
  (decide (p0_x ≥ (256 : Int)) = false →
    ((0 : Int) ≤ IntKind.wrap IntKind.u8 p0_x ∧ IntKind.wrap IntKind.u8 p0_x < (↑256 : Int)) ∧
      ∃ c,
        (∃ u,
            (ByteArray.mk #[(0 : UInt8), (1 : UInt8), (2 : UInt8), (2 : UInt8), (3 : UInt8), (3 : UInt8), (3 : UInt8),
                        (3 : UInt8), (4 : UInt8), (4 : UInt8), (4 : UInt8), (4 : UInt8), (4 : UInt8), (4 : UInt8),
                        (4 : UInt8), (4 : UInt8), (5 : UInt8), (5 : UInt8), (5 : UInt8), (5 : UInt8), (5 : UInt8),
                        (5 : UInt8), (5 : UInt8), (5 : UInt8), (5 : UInt8), (5 : UInt8), (5 : UInt8), (5 : UInt8),
                        (5 : UInt8), (5 : UInt8), (5 : UInt8), (5 : UInt8), (6 : UInt8), (6 : UInt8), (6 : UInt8),
                        (6 : UInt8), (6 : UInt8), (6 : UInt8), (6 : UInt8), (6 : UInt8), (6 : UInt8), (6 : UInt8),
                        (6 : UInt8), (6 : UInt8), (6 : UInt8), (6 : UInt8), (6 : UInt8), (6 : UInt8), (6 : UInt8),
                        (6 : UInt8), (6 : UInt8), (6 : UInt8), (6 : UInt8), (6 : UInt8), (6 : UInt8), (6 : UInt8),
                        (6 : UInt8), (6 : UInt8), (6 : UInt8), (6 : UInt8), (6 : UInt8), (6 : UInt8), (6 : UInt8),
                        (6 : UInt8), (7 : UInt8), (7 : UInt8), (7 : UInt8), (7 : UInt8), (7 : UInt8), (7 : UInt8),
                        (7 : UInt8), (7 : UInt8), (7 : UInt8), (7 : UInt8), (7 : UInt8), (7 : UInt8), (7 : UInt8),
                        (7 : UInt8), (7 : UInt8), (7 : UInt8), (7 : UInt8), (7 : UInt8), (7 : UInt8), (7 : UInt8),
                        (7 : UInt8), (7 : UInt8), (7 : UInt8), (7 : UInt8), (7 : UInt8), (7 : UInt8), (7 : UInt8),
                        (7 : UInt8), (7 : UInt8), (7 : UInt8), (7 : UInt8), (7 : UInt8), (7 : UInt8), (7 : UInt8),
                        (7 : UInt8), (7 : UInt8), (7 : UInt8), (7 : UInt8), (7 : UInt8), (7 : UInt8), (7 : UInt8),
                        (7 : UInt8), (7 : UInt8), (7 : UInt8), (7 : UInt8), (7 : UInt8), (7 : UInt8), (7 : UInt8),
                        (7 : UInt8), (7 : UInt8), (7 : UInt8), (7 : UInt8), (7 : UInt8), (7 : UInt8), (7 : UInt8),
                        (7 : UInt8), (7 : UInt8), (7 : UInt8), (7 : UInt8), (7 : UInt8), (7 : UInt8), (7 : UInt8),
                        (7 : UInt8), (7 : UInt8), (8 : UInt8), (8 : UInt8), (8 : UInt8), (8 : UInt8), (8 : UInt8),
                        (8 : UInt8), (8 : UInt8), (8 : UInt8), (8 : UInt8), (8 : UInt8), (8 : UInt8), (8 : UInt8),
                        (8 : UInt8), (8 : UInt8), (8 : UInt8), (8 : UInt8), (8 : UInt8), (8 : UInt8), (8 : UInt8),
                        (8 : UInt8), (8 : UInt8), (8 : UInt8), (8 : UInt8), (8 : UInt8), (8 : UInt8), (8 : UInt8),
                        (8 : UInt8), (8 : UInt8), (8 : UInt8), (8 : UInt8), (8 : UInt8), (8 : UInt8), (8 : UInt8),
                        (8 : UInt8), (8 : UInt8), (8 : UInt8), (8 : UInt8), (8 : UInt8), (8 : UInt8), (8 : UInt8),
                        (8 : UInt8), (8 : UInt8), (8 : UInt8), (8 : UInt8), (8 : UInt8), (8 : UInt8), (8 : UInt8),
                        (8 : UInt8), (8 : UInt8), (8 : UInt8), (8 : UInt8), (8 : UInt8), (8 : UInt8), (8 : UInt8),
                        (8 : UInt8), (8 : UInt8), (8 : UInt8), (8 : UInt8), (8 : UInt8), (8 : UInt8), (8 : UInt8),
                        (8 : UInt8), (8 : UInt8), (8 : UInt8), (8 : UInt8), (8 : UInt8), (8 : UInt8), (8 : UInt8),
                        (8 : UInt8), (8 : UInt8), (8 : UInt8), (8 : UInt8), (8 : UInt8), (8 : UInt8), (8 : UInt8),
                        (8 : UInt8), (8 : UInt8), (8 : UInt8), (8 : UInt8), (8 : UInt8), (8 : UInt8), (8 : UInt8),
                        (8 : UInt8), (8 : UInt8), (8 : UInt8), (8 : UInt8), (8 : UInt8), (8 : UInt8), (8 : UInt8),
                        (8 : UInt8), (8 : UInt8), (8 : UInt8), (8 : UInt8), (8 : UInt8), (8 : UInt8), (8 : UInt8),
                        (8 : UInt8), (8 : UInt8), (8 : UInt8), (8 : UInt8), (8 : UInt8), (8 : UInt8), (8 : UInt8),
                        (8 : UInt8), (8 : UInt8), (8 : UInt8), (8 : UInt8), (8 : UInt8), (8 : UInt8), (8 : UInt8),
                        (8 : UInt8), (8 : UInt8), (8 : UInt8), (8 : UInt8), (8 : UInt8), (8 : UInt8), (8 : UInt8),
                        (8 : UInt8), (8 : UInt8), (8 : UInt8), (8 : UInt8), (8 : UInt8), (8 : UInt8), (8 : UInt8),
                        (8 : UInt8), (8 : UInt8), (8 : UInt8),
                        (8 : UInt8)])[Int.toNat (IntKind.wrap IntKind.u8 p0_x)]? =
                some u ∧
              (↑(UInt8.toNat u) : Int) = c) ∧
          R (Ending.returned (Value.int IntKind.i64 (IntKind.wrap IntKind.i64 (p2_n + IntKind.wrap IntKind.i64 c))))
            w)) := by kernel_rfl
end Go.Dav
