/- What functions of the program come to. -/
import Derived.Test.YtgakbnonkgohfaaPrg10p
namespace Go.Dav
open Go.Proofs
/-! davit/davitlaw10.RunqRound -/
def M3 : Mt := { N := 92, keep := [(0, [0]), (1, [0, 3, 4]), (2, [0, 3, 19]), (3, [2]), (4, [0, 3, 5]), (5, [0, 3, 5, 27]), (6, [0, 3, 5]), (7, [0, 3, 5]), (8, [3, 6]), (9, [3, 6, 7]), (10, [3, 6, 7, 47]), (11, [3, 6, 7]), (12, [3, 6, 7, 8]), (13, [3, 6, 7, 8, 10]), (14, [3, 6, 7, 69]), (15, [3, 6, 7, 12, 13]), (16, [3, 6, 7, 84]), (17, [2]), (18, [2])], ords := [(7, [0, 1, 2, 3, 4, 5, 6, 7, 8, 9, 10, 11])], bk := [(0, [3]), (1, [0, 3, 5]), (2, [3, 6]), (3, [3, 6, 7])], cuts := [(8, [3]), (18, [3, 6])], lk := [(5, [0, 3, 5]), (10, [3, 6, 7])] }
noncomputable def c3 : Code := bodyOf Try.f3
noncomputable def c3_0 : Code := c3.sr.sr.sr.sr
noncomputable def c3_1 : Code := c3.sr.sr.sr.sr.sr.sr
noncomputable def c3_2 : Code := c3.sr.sr.sr.sl.sr.sl.sl
noncomputable def c3_3 : Code := c3.sr.sr.sr.sr.sr.sl.sr.sl.sl
def e3_0 (p3_q : Option Addr) : Env := [(3, SV.v (Value.pointer p3_q))]
def e3_2 (p0_l_a : Option Addr) (p0_l_n : Nat) (p0_l_c : Nat) (p3_q : Option Addr) (p5_i : Int) : Env := [(0, SV.v (Value.slice p0_l_a p0_l_n p0_l_c)), (3, SV.v (Value.pointer p3_q)), (5, SV.v (Value.int IntKind.i64 p5_i))]
def e3_1 (p3_q : Option Addr) (p6_was_a : Option Addr) (p6_was_n : Nat) (p6_was_c : Nat) : Env := [(3, SV.v (Value.pointer p3_q)), (6, SV.v (Value.slice p6_was_a p6_was_n p6_was_c))]
def e3_3 (p3_q : Option Addr) (p6_was_a : Option Addr) (p6_was_n : Nat) (p6_was_c : Nat) (p7_i : Int) : Env := [(3, SV.v (Value.pointer p3_q)), (6, SV.v (Value.slice p6_was_a p6_was_n p6_was_c)), (7, SV.v (Value.int IntKind.i64 p7_i))]
def k3_0 (R : Ending → World → Prop) : Cont := retK Try.prog Try.f3.results.toList R
def k3_2 (R : Ending → World → Prop) : Cont := blockK 0 [3] (seqK (fun E w => cutB (findL M3.cuts (headReg c3_0)) Try.prog M3 c3_0 E w (retK Try.prog Try.f3.results.toList R) fun E => den Try.prog M3 c3_0 E w (retK Try.prog Try.f3.results.toList R)) (retK Try.prog Try.f3.results.toList R))
def k3_1 (R : Ending → World → Prop) : Cont := retK Try.prog Try.f3.results.toList R
def k3_3 (R : Ending → World → Prop) : Cont := blockK 2 [3, 6] (seqK (fun E w => cutB (findL M3.cuts (headReg c3_1)) Try.prog M3 c3_1 E w (retK Try.prog Try.f3.results.toList R) fun E => den Try.prog M3 c3_1 E w (retK Try.prog Try.f3.results.toList R)) (retK Try.prog Try.f3.results.toList R))
theorem b3 : Try.f3.body = some c3 := by kernel_rfl
theorem n3 : Try.f3.ntmps = M3.N := by kernel_rfl
theorem u3 {p0_l_a : Option Addr} {p0_l_n : Nat} {p0_l_c : Nat} {w : World} {R : Ending → World → Prop} (h : den Try.prog M3 c3 (argE 0 [(Value.slice p0_l_a p0_l_n p0_l_c)]) w (retK Try.prog Try.f3.results.toList R)) : Calls Try.prog 3 #[(Value.slice p0_l_a p0_l_n p0_l_c)] w R := calls_den okProg Try.func3 b3 n3 (Nat.le_of_ble_eq_true rfl) h
theorem t3 (p0_l_a : Option Addr) (p0_l_n : Nat) (p0_l_c : Nat) (w : World) (R : Ending → World → Prop) : den Try.prog M3 c3 (argE 0 [(Value.slice p0_l_a p0_l_n p0_l_c)]) w (retK Try.prog Try.f3.results.toList R) =
(Call Try.prog 5 [Value.int IntKind.i64 1] w fun e w' =>
  ∃ p n,
    e = Ending.returned (Value.tuple #[Value.pointer p, Value.int IntKind.i64 n]) ∧
      ((n != (0 : Int)) = true → R (Ending.returned (Value.bool false)) w') ∧
        ((n != (0 : Int)) = false →
          Cut (WP Try.prog 92 (Code.loop c3_2) (e3_2 p0_l_a p0_l_n p0_l_c p (0 : Int)) w' (k3_2 R)))) := by kernel_rfl
theorem t3_0 (p3_q : Option Addr) (w : World) (R : Ending → World → Prop) : den Try.prog M3 c3_0 (e3_0 p3_q) w (k3_0 R) =
(Call Try.prog 7 [Value.pointer p3_q, Value.int IntKind.i64 0] w fun e w' =>
  ∃ p n c,
    e = Ending.returned (Value.slice p n c) ∧
      Cut (WP Try.prog 92 (Code.loop c3_3) (e3_3 p3_q p n c (0 : Int)) w' (k3_3 R))) := by kernel_rfl
theorem t3_2 (p0_l_a : Option Addr) (p0_l_n : Nat) (p0_l_c : Nat) (p3_q : Option Addr) (p5_i : Int) (w : World) (B3_2 : Env → World → Prop) (R : Ending → World → Prop) : den Try.prog M3 c3_2 (e3_2 p0_l_a p0_l_n p0_l_c p3_q p5_i) w (loopK B3_2 (k3_2 R)) =
((decide (p5_i < (↑p0_l_n : Int)) = true →
    (decide (p5_i < (60 : Int)) = true →
        ∀ (w' : World),
          World.heap w' = World.heap w →
            World.os w' = World.os w →
              World.tape w' = World.tape w →
                World.output w' = World.output w →
                  ((0 : Int) ≤ p5_i ∧ p5_i < (↑p0_l_n : Int)) ∧
                    ∃ a,
                      p0_l_a = some a ∧
                        ∃ n,
                          World.cell? w' (Addr.add (Addr.add a (Int.toNat p5_i * 5)) 3) =
                              some (Value.int IntKind.i64 n) ∧
                            ((0 : Int) ≤ p5_i ∧ p5_i < (↑p0_l_n : Int)) ∧
                              ∃ a,
                                p0_l_a = some a ∧
                                  ∃ n_1,
                                    World.cell? w' (Addr.add (Addr.add a (Int.toNat p5_i * 5)) 4) =
                                        some (Value.int IntKind.i64 n_1) ∧
                                      Call Try.prog 6
                                        [Value.pointer p3_q, Value.int IntKind.i64 0, Value.int IntKind.i64 n,
                                          Value.int IntKind.i64 n_1]
                                        w' fun e w' =>
                                        ∃ n,
                                          e = Ending.returned (Value.int IntKind.i64 n) ∧
                                            B3_2
                                              [(0, SV.v (Value.slice p0_l_a p0_l_n p0_l_c)),
                                                (3, SV.v (Value.pointer p3_q)),
                                                (5,
                                                  SV.v
                                                    (Value.int IntKind.i64
                                                      (IntKind.wrap IntKind.i64 (p5_i + (1 : Int)))))]
                                              w') ∧
      (decide (p5_i < (60 : Int)) = false → CutD Try.prog M3 c3_0 (e3_0 p3_q) w (k3_0 R))) ∧
  (decide (p5_i < (↑p0_l_n : Int)) = false → CutD Try.prog M3 c3_0 (e3_0 p3_q) w (k3_0 R))) := by kernel_rfl
theorem t3_1 (p3_q : Option Addr) (p6_was_a : Option Addr) (p6_was_n : Nat) (p6_was_c : Nat) (w : World) (R : Ending → World → Prop) : den Try.prog M3 c3_1 (e3_1 p3_q p6_was_a p6_was_n p6_was_c) w (k3_1 R) =
(Call Try.prog 7 [Value.pointer p3_q, Value.int IntKind.i64 0] w fun e w' =>
  ∃ p n c,
    e = Ending.returned (Value.slice p n c) ∧
      Call Try.prog 10 [Value.slice p n c, Value.slice p6_was_a p6_was_n p6_was_c] w' fun e w' =>
        ∃ b,
          e = Ending.returned (Value.bool b) ∧
            (b = true →
                Call Try.prog 11 [] w' fun e w' =>
                  ∃ b, e = Ending.returned (Value.bool b) ∧ R (Ending.returned (Value.bool b)) w') ∧
              (b = false → R (Ending.returned (Value.bool false)) w')) := by kernel_rfl
theorem t3_3 (p3_q : Option Addr) (p6_was_a : Option Addr) (p6_was_n : Nat) (p6_was_c : Nat) (p7_i : Int) (w : World) (B3_3 : Env → World → Prop) (R : Ending → World → Prop) : den Try.prog M3 c3_3 (e3_3 p3_q p6_was_a p6_was_n p6_was_c p7_i) w (loopK B3_3 (k3_3 R)) =
((decide (p7_i < (↑p6_was_n : Int)) = true →
    ((0 : Int) ≤ p7_i ∧ p7_i < (↑p6_was_n : Int)) ∧
      ∃ a,
        p6_was_a = some a ∧
          ∃ n,
            World.cell? w (Addr.add a (Int.toNat p7_i * 1)) = some (Value.int IntKind.i64 n) ∧
              Call Try.prog 8 [Value.pointer p3_q, Value.int IntKind.i64 n] w fun e w' =>
                ∃ n b,
                  e = Ending.returned (Value.tuple #[Value.int IntKind.i64 n, Value.bool b]) ∧
                    ((0 : Int) ≤ (0 : Int) ∧ (0 : Int) < (↑p6_was_n : Int)) ∧
                      ∃ a,
                        p6_was_a = some a ∧
                          ∃ n_1,
                            World.cell? w' (Addr.add a 0) = some (Value.int IntKind.i64 n_1) ∧
                              Call Try.prog 8 [Value.pointer p3_q, Value.int IntKind.i64 n_1] w' fun e w' =>
                                ∃ n_2 b,
                                  e = Ending.returned (Value.tuple #[Value.int IntKind.i64 n_2, Value.bool b]) ∧
                                    ((n != n_2) = true →
                                        CutD Try.prog M3 c3_1 (e3_1 p3_q p6_was_a p6_was_n p6_was_c) w' (k3_1 R)) ∧
                                      ((n != n_2) = false →
                                        Call Try.prog 9 [Value.pointer p3_q, Value.int IntKind.i64 0]
                                          w' fun e w' =>
                                          ∃ n n_3,
                                            e =
                                                Ending.returned
                                                  (Value.tuple #[Value.int IntKind.i64 n, Value.int IntKind.i64 n_3]) ∧
                                              ((0 : Int) ≤ p7_i ∧ p7_i < (↑p6_was_n : Int)) ∧
                                                ∃ a,
                                                  p6_was_a = some a ∧
                                                    ∃ n_4,
                                                      World.cell? w' (Addr.add a (Int.toNat p7_i * 1)) =
                                                          some (Value.int IntKind.i64 n_4) ∧
                                                        ((n != n_4) = false →
                                                            ((n_3 != (0 : Int)) = true →
                                                                R (Ending.returned (Value.bool false)) w') ∧
                                                              ((n_3 != (0 : Int)) = false →
                                                                B3_3
                                                                  [(3, SV.v (Value.pointer p3_q)),
                                                                    (6,
                                                                      SV.v (Value.slice p6_was_a p6_was_n p6_was_c)),
                                                                    (7,
                                                                      SV.v
                                                                        (Value.int IntKind.i64
                                                                          (IntKind.wrap IntKind.i64
                                                                            (p7_i + (1 : Int)))))]
                                                                  w')) ∧
                                                          ((n != n_4) = true →
                                                            R (Ending.returned (Value.bool false)) w'))) ∧
  (decide (p7_i < (↑p6_was_n : Int)) = false →
    CutD Try.prog M3 c3_1 (e3_1 p3_q p6_was_a p6_was_n p6_was_c) w (k3_1 R))) := by kernel_rfl
/-! davit/davitlaw10.RunqMoves -/
def M4 : Mt := { N := 134, keep := [(0, [0, 1, 2]), (1, [0, 1, 2, 7, 8]), (2, [0, 1, 2, 7, 23]), (3, [6]), (4, [0, 1, 2, 7, 9]), (5, [0, 1, 2, 7, 9, 10]), (6, [0, 1, 2, 7, 9, 10, 40]), (7, [0, 1, 2, 7, 9, 10]), (8, [0, 1, 2, 7, 9, 10, 60]), (9, [0, 1, 2, 7, 9, 10]), (10, [0, 2, 7, 9, 11]), (11, [0, 2, 7, 9, 11, 75]), (12, [0, 2, 7, 9, 11]), (13, [0, 2, 7, 9, 11]), (14, [0, 7, 9, 12]), (15, [0, 7, 9, 12, 13]), (16, [0, 7, 9, 12, 13, 92]), (17, [0, 7, 9, 12, 13]), (18, [0, 7, 9, 12, 13]), (19, [7, 9, 12, 14]), (20, [7, 9, 12, 14, 103]), (21, [7, 9, 12, 14]), (22, [7, 9, 12, 14, 15, 16]), (23, [7, 9, 12, 14, 126]), (24, [6]), (25, [6])], ords := [(8, [0, 1, 2, 3, 4, 5, 6, 7, 8, 9, 10, 11, 12, 13, 14, 15, 16, 17]), (13, [0, 1, 2, 3, 4, 5, 6, 7, 8, 9, 10, 11])], bk := [(0, [0, 2, 7, 9]), (1, [0, 1, 2, 7, 9, 10]), (2, [0, 7, 9]), (3, [0, 2, 7, 9, 11]), (4, [7, 9, 12]), (5, [0, 7, 9, 12, 13]), (6, [9, 12]), (7, [7, 9, 12, 14])], cuts := [(10, [0, 2, 7, 9]), (14, [0, 7, 9]), (19, [7, 9, 12]), (25, [9, 12])], lk := [(6, [0, 1, 2, 7, 9, 10]), (11, [0, 2, 7, 9, 11]), (16, [0, 7, 9, 12, 13]), (20, [7, 9, 12, 14])] }
noncomputable def c4 : Code := bodyOf Try.f4
noncomputable def c4_0 : Code := c4.sr.sr.sr.sr.sr
noncomputable def c4_1 : Code := c4.sr.sr.sr.sr.sr.sr
noncomputable def c4_2 : Code := c4.sr.sr.sr.sr.sl.sr.sl.sl
noncomputable def c4_3 : Code := c4.sr.sr.sr.sr.sr.sr.sr.sr
noncomputable def c4_4 : Code := c4.sr.sr.sr.sr.sr.sl.sr.sl.sl
noncomputable def c4_5 : Code := c4.sr.sr.sr.sr.sr.sr.sr.sr.sr
noncomputable def c4_6 : Code := c4.sr.sr.sr.sr.sr.sr.sr.sl.sr.sl.sl
noncomputable def c4_7 : Code := c4.sr.sr.sr.sr.sr.sr.sr.sr.sl.sr.sl.sl
def e4_0 (p0_cpus : Int) (p2_moves_a : Option Addr) (p2_moves_n : Nat) (p2_moves_c : Nat) (p7_q : Option Addr) (p9_put_a : Option Addr) (p9_put_n : Nat) (p9_put_c : Nat) : Env := [(0, SV.v (Value.int IntKind.i64 p0_cpus)), (2, SV.v (Value.slice p2_moves_a p2_moves_n p2_moves_c)), (7, SV.v (Value.pointer p7_q)), (9, SV.v (Value.slice p9_put_a p9_put_n p9_put_c))]
def e4_2 (p0_cpus : Int) (p1_l_a : Option Addr) (p1_l_n : Nat) (p1_l_c : Nat) (p2_moves_a : Option Addr) (p2_moves_n : Nat) (p2_moves_c : Nat) (p7_q : Option Addr) (p9_put_a : Option Addr) (p9_put_n : Nat) (p9_put_c : Nat) (p10_i : Int) : Env := [(0, SV.v (Value.int IntKind.i64 p0_cpus)), (1, SV.v (Value.slice p1_l_a p1_l_n p1_l_c)), (2, SV.v (Value.slice p2_moves_a p2_moves_n p2_moves_c)), (7, SV.v (Value.pointer p7_q)), (9, SV.v (Value.slice p9_put_a p9_put_n p9_put_c)), (10, SV.v (Value.int IntKind.i64 p10_i))]
def e4_1 (p0_cpus : Int) (p7_q : Option Addr) (p9_put_a : Option Addr) (p9_put_n : Nat) (p9_put_c : Nat) : Env := [(0, SV.v (Value.int IntKind.i64 p0_cpus)), (7, SV.v (Value.pointer p7_q)), (9, SV.v (Value.slice p9_put_a p9_put_n p9_put_c))]
def e4_4 (p0_cpus : Int) (p2_moves_a : Option Addr) (p2_moves_n : Nat) (p2_moves_c : Nat) (p7_q : Option Addr) (p9_put_a : Option Addr) (p9_put_n : Nat) (p9_put_c : Nat) (p11_i : Int) : Env := [(0, SV.v (Value.int IntKind.i64 p0_cpus)), (2, SV.v (Value.slice p2_moves_a p2_moves_n p2_moves_c)), (7, SV.v (Value.pointer p7_q)), (9, SV.v (Value.slice p9_put_a p9_put_n p9_put_c)), (11, SV.v (Value.int IntKind.i64 p11_i))]
def e4_3 (p7_q : Option Addr) (p9_put_a : Option Addr) (p9_put_n : Nat) (p9_put_c : Nat) (p12_many : Int) : Env := [(7, SV.v (Value.pointer p7_q)), (9, SV.v (Value.slice p9_put_a p9_put_n p9_put_c)), (12, SV.v (Value.int IntKind.i64 p12_many))]
def e4_6 (p0_cpus : Int) (p7_q : Option Addr) (p9_put_a : Option Addr) (p9_put_n : Nat) (p9_put_c : Nat) (p12_many : Int) (p13_c : Int) : Env := [(0, SV.v (Value.int IntKind.i64 p0_cpus)), (7, SV.v (Value.pointer p7_q)), (9, SV.v (Value.slice p9_put_a p9_put_n p9_put_c)), (12, SV.v (Value.int IntKind.i64 p12_many)), (13, SV.v (Value.int IntKind.i64 p13_c))]
def e4_5 (p9_put_a : Option Addr) (p9_put_n : Nat) (p9_put_c : Nat) (p12_many : Int) : Env := [(9, SV.v (Value.slice p9_put_a p9_put_n p9_put_c)), (12, SV.v (Value.int IntKind.i64 p12_many))]
def e4_7 (p7_q : Option Addr) (p9_put_a : Option Addr) (p9_put_n : Nat) (p9_put_c : Nat) (p12_many : Int) (p14_i : Int) : Env := [(7, SV.v (Value.pointer p7_q)), (9, SV.v (Value.slice p9_put_a p9_put_n p9_put_c)), (12, SV.v (Value.int IntKind.i64 p12_many)), (14, SV.v (Value.int IntKind.i64 p14_i))]
def k4_0 (R : Ending → World → Prop) : Cont := retK Try.prog Try.f4.results.toList R
def k4_2 (R : Ending → World → Prop) : Cont := blockK 0 [0, 2, 7, 9] (seqK (fun E w => cutB (findL M4.cuts (headReg c4_0)) Try.prog M4 c4_0 E w (retK Try.prog Try.f4.results.toList R) fun E => den Try.prog M4 c4_0 E w (retK Try.prog Try.f4.results.toList R)) (retK Try.prog Try.f4.results.toList R))
def k4_1 (R : Ending → World → Prop) : Cont := retK Try.prog Try.f4.results.toList R
def k4_4 (R : Ending → World → Prop) : Cont := blockK 2 [0, 7, 9] (seqK (fun E w => cutB (findL M4.cuts (headReg c4_1)) Try.prog M4 c4_1 E w (retK Try.prog Try.f4.results.toList R) fun E => den Try.prog M4 c4_1 E w (retK Try.prog Try.f4.results.toList R)) (retK Try.prog Try.f4.results.toList R))
def k4_3 (R : Ending → World → Prop) : Cont := retK Try.prog Try.f4.results.toList R
def k4_6 (R : Ending → World → Prop) : Cont := blockK 4 [7, 9, 12] (seqK (fun E w => cutB (findL M4.cuts (headReg c4_3)) Try.prog M4 c4_3 E w (retK Try.prog Try.f4.results.toList R) fun E => den Try.prog M4 c4_3 E w (retK Try.prog Try.f4.results.toList R)) (retK Try.prog Try.f4.results.toList R))
def k4_5 (R : Ending → World → Prop) : Cont := retK Try.prog Try.f4.results.toList R
def k4_7 (R : Ending → World → Prop) : Cont := blockK 6 [9, 12] (seqK (fun E w => cutB (findL M4.cuts (headReg c4_5)) Try.prog M4 c4_5 E w (retK Try.prog Try.f4.results.toList R) fun E => den Try.prog M4 c4_5 E w (retK Try.prog Try.f4.results.toList R)) (retK Try.prog Try.f4.results.toList R))
theorem b4 : Try.f4.body = some c4 := by kernel_rfl
theorem n4 : Try.f4.ntmps = M4.N := by kernel_rfl
theorem u4 {p0_cpus : Int} {p1_l_a : Option Addr} {p1_l_n : Nat} {p1_l_c : Nat} {p2_moves_a : Option Addr} {p2_moves_n : Nat} {p2_moves_c : Nat} {w : World} {R : Ending → World → Prop} (h : den Try.prog M4 c4 (argE 0 [(Value.int IntKind.i64 p0_cpus), (Value.slice p1_l_a p1_l_n p1_l_c), (Value.slice p2_moves_a p2_moves_n p2_moves_c)]) w (retK Try.prog Try.f4.results.toList R)) : Calls Try.prog 4 #[(Value.int IntKind.i64 p0_cpus), (Value.slice p1_l_a p1_l_n p1_l_c), (Value.slice p2_moves_a p2_moves_n p2_moves_c)] w R := calls_den okProg Try.func4 b4 n4 (Nat.le_of_ble_eq_true rfl) h
theorem t4 (p0_cpus : Int) (p1_l_a : Option Addr) (p1_l_n : Nat) (p1_l_c : Nat) (p2_moves_a : Option Addr) (p2_moves_n : Nat) (p2_moves_c : Nat) (w : World) (R : Ending → World → Prop) : den Try.prog M4 c4 (argE 0 [(Value.int IntKind.i64 p0_cpus), (Value.slice p1_l_a p1_l_n p1_l_c), (Value.slice p2_moves_a p2_moves_n p2_moves_c)]) w (retK Try.prog Try.f4.results.toList R) =
(Call Try.prog 5 [Value.int IntKind.i64 p0_cpus] w fun e w' =>
  ∃ p n,
    e = Ending.returned (Value.tuple #[Value.pointer p, Value.int IntKind.i64 n]) ∧
      ((n != (0 : Int)) = true →
          (decide (p0_cpus < (1 : Int)) = false →
              (decide (p0_cpus > (64 : Int)) = true →
                  Call Try.prog 11 [] w' fun e w' =>
                    ∃ b, e = Ending.returned (Value.bool b) ∧ R (Ending.returned (Value.bool b)) w') ∧
                (decide (p0_cpus > (64 : Int)) = false → R (Ending.returned (Value.bool false)) w')) ∧
            (decide (p0_cpus < (1 : Int)) = true →
              Call Try.prog 11 [] w' fun e w' =>
                ∃ b, e = Ending.returned (Value.bool b) ∧ R (Ending.returned (Value.bool b)) w')) ∧
        ((n != (0 : Int)) = false →
          Cut
            (WP Try.prog 134 (Code.loop c4_2)
              (e4_2 p0_cpus p1_l_a p1_l_n p1_l_c p2_moves_a p2_moves_n p2_moves_c p none 0 0
                (0 : Int))
              w' (k4_2 R)))) := by kernel_rfl
theorem t4_0 (p0_cpus : Int) (p2_moves_a : Option Addr) (p2_moves_n : Nat) (p2_moves_c : Nat) (p7_q : Option Addr) (p9_put_a : Option Addr) (p9_put_n : Nat) (p9_put_c : Nat) (w : World) (R : Ending → World → Prop) : den Try.prog M4 c4_0 (e4_0 p0_cpus p2_moves_a p2_moves_n p2_moves_c p7_q p9_put_a p9_put_n p9_put_c) w (k4_0 R) =
(Cut
  (WP Try.prog 134 (Code.loop c4_4)
    (e4_4 p0_cpus p2_moves_a p2_moves_n p2_moves_c p7_q p9_put_a p9_put_n p9_put_c (0 : Int)) w (k4_4 R))) := by kernel_rfl
theorem t4_2 (p0_cpus : Int) (p1_l_a : Option Addr) (p1_l_n : Nat) (p1_l_c : Nat) (p2_moves_a : Option Addr) (p2_moves_n : Nat) (p2_moves_c : Nat) (p7_q : Option Addr) (p9_put_a : Option Addr) (p9_put_n : Nat) (p9_put_c : Nat) (p10_i : Int) (w : World) (B4_2 : Env → World → Prop) (R : Ending → World → Prop) : den Try.prog M4 c4_2 (e4_2 p0_cpus p1_l_a p1_l_n p1_l_c p2_moves_a p2_moves_n p2_moves_c p7_q p9_put_a p9_put_n p9_put_c p10_i) w (loopK B4_2 (k4_2 R)) =
((decide (p10_i < (↑p1_l_n : Int)) = true →
    (decide (p10_i < (30 : Int)) = true →
        ∀ (w' : World),
          World.heap w' = World.heap w →
            World.os w' = World.os w →
              World.tape w' = World.tape w →
                World.output w' = World.output w →
                  ((0 : Int) ≤ p10_i ∧ p10_i < (↑p1_l_n : Int)) ∧
                    ∃ a,
                      p1_l_a = some a ∧
                        ∃ n,
                          World.cell? w' (Addr.add (Addr.add a (Int.toNat p10_i * 5)) 1) =
                              some (Value.int IntKind.i64 n) ∧
                            ((0 : Int) ≤ p10_i ∧ p10_i < (↑p1_l_n : Int)) ∧
                              ∃ a,
                                p1_l_a = some a ∧
                                  ∃ n_1,
                                    World.cell? w' (Addr.add (Addr.add a (Int.toNat p10_i * 5)) 3) =
                                        some (Value.int IntKind.i64 n_1) ∧
                                      ((0 : Int) ≤ p10_i ∧ p10_i < (↑p1_l_n : Int)) ∧
                                        ∃ a,
                                          p1_l_a = some a ∧
                                            ∃ n_2,
                                              World.cell? w'
                                                    (Addr.add (Addr.add a (Int.toNat p10_i * 5)) 4) =
                                                  some (Value.int IntKind.i64 n_2) ∧
                                                Call Try.prog 6
                                                  [Value.pointer p7_q, Value.int IntKind.i64 n,
                                                    Value.int IntKind.i64 n_1, Value.int IntKind.i64 n_2]
                                                  w' fun e w' =>
                                                  ∃ n,
                                                    e = Ending.returned (Value.int IntKind.i64 n) ∧
                                                      ((n == (0 : Int)) = true →
                                                          ((0 : Int) ≤ p10_i ∧ p10_i < (↑p1_l_n : Int)) ∧
                                                            ∃ a,
                                                              p1_l_a = some a ∧
                                                                ∃ n,
                                                                  World.cell? w'
                                                                        (Addr.add
                                                                          (Addr.add a (Int.toNat p10_i * 5))
                                                                          0) =
                                                                      some (Value.int IntKind.i64 n) ∧
                                                                    ∃ n_3,
                                                                      World.cell? w'
                                                                            (Addr.add
                                                                              (Addr.add a
                                                                                (Int.toNat p10_i * 5))
                                                                              1) =
                                                                          some (Value.int IntKind.i64 n_3) ∧
                                                                        ∃ n_4,
                                                                          World.cell? w'
                                                                                (Addr.add
                                                                                  (Addr.add a
                                                                                    (Int.toNat p10_i * 5))
                                                                                  2) =
                                                                              some (Value.int IntKind.i64 n_4) ∧
                                                                            ∃ n_5,
                                                                              World.cell? w'
                                                                                    (Addr.add
                                                                                      (Addr.add a
                                                                                        (Int.toNat p10_i * 5))
                                                                                      3) =
                                                                                  some (Value.int IntKind.i64 n_5) ∧
                                                                                ∃ n_6,
                                                                                  World.cell? w'
                                                                                        (Addr.add
                                                                                          (Addr.add a
                                                                                            (Int.toNat p10_i *
                                                                                              5))
                                                                                          4) =
                                                                                      some (Value.int IntKind.i64 n_6) ∧
                                                                                    New w'
                                                                                      [Value.int IntKind.i64 n,
                                                                                        Value.int IntKind.i64 n_3,
                                                                                        Value.int IntKind.i64 n_4,
                                                                                        Value.int IntKind.i64 n_5,
                                                                                        Value.int IntKind.i64 n_6]
                                                                                      29 fun p w' =>
                                                                                      ∃ p_1 n c w'_1,
                                                                                        Sem.run Try.prog
                                                                                              (Builtin.append_
                                                                                                #[22,
                                                                                                  22]
                                                                                                22
                                                                                                #[Value.slice p9_put_a
                                                                                                    p9_put_n p9_put_c,
                                                                                                  Value.slice (some p)
                                                                                                    1
                                                                                                    1])
                                                                                              w' =
                                                                                            Result.ok
                                                                                              (Value.slice p_1 n c)
                                                                                              w'_1 ∧
                                                                                          B4_2
                                                                                            [(0,
                                                                                                SV.v
                                                                                                  (Value.int IntKind.i64
                                                                                                    p0_cpus)),
                                                                                              (1,
                                                                                                SV.v
                                                                                                  (Value.slice p1_l_a
                                                                                                    p1_l_n p1_l_c)),
                                                                                              (2,
                                                                                                SV.v
                                                                                                  (Value.slice
                                                                                                    p2_moves_a
                                                                                                    p2_moves_n
                                                                                                    p2_moves_c)),
                                                                                              (7,
                                                                                                SV.v
                                                                                                  (Value.pointer
                                                                                                    p7_q)),
                                                                                              (9,
                                                                                                SV.v
                                                                                                  (Value.slice p_1 n
                                                                                                    c)),
                                                                                              (10,
                                                                                                SV.v
                                                                                                  (Value.int IntKind.i64
                                                                                                    (IntKind.wrap
                                                                                                      IntKind.i64
                                                                                                      (p10_i +
                                                                                                        (1 : Int)))))]
                                                                                            w'_1) ∧
                                                        ((n == (0 : Int)) = false →
                                                          B4_2
                                                            [(0, SV.v (Value.int IntKind.i64 p0_cpus)),
                                                              (1, SV.v (Value.slice p1_l_a p1_l_n p1_l_c)),
                                                              (2,
                                                                SV.v (Value.slice p2_moves_a p2_moves_n p2_moves_c)),
                                                              (7, SV.v (Value.pointer p7_q)),
                                                              (9,
                                                                SV.v (Value.slice p9_put_a p9_put_n p9_put_c)),
                                                              (10,
                                                                SV.v
                                                                  (Value.int IntKind.i64
                                                                    (IntKind.wrap IntKind.i64 (p10_i + (1 : Int)))))]
                                                            w')) ∧
      (decide (p10_i < (30 : Int)) = false →
        CutD Try.prog M4 c4_0 (e4_0 p0_cpus p2_moves_a p2_moves_n p2_moves_c p7_q p9_put_a p9_put_n p9_put_c) w
          (k4_0 R))) ∧
  (decide (p10_i < (↑p1_l_n : Int)) = false →
    CutD Try.prog M4 c4_0 (e4_0 p0_cpus p2_moves_a p2_moves_n p2_moves_c p7_q p9_put_a p9_put_n p9_put_c) w
      (k4_0 R))) := by kernel_rfl
theorem t4_1 (p0_cpus : Int) (p7_q : Option Addr) (p9_put_a : Option Addr) (p9_put_n : Nat) (p9_put_c : Nat) (w : World) (R : Ending → World → Prop) : den Try.prog M4 c4_1 (e4_1 p0_cpus p7_q p9_put_a p9_put_n p9_put_c) w (k4_1 R) =
(Cut
  (WP Try.prog 134 (Code.loop c4_6) (e4_6 p0_cpus p7_q p9_put_a p9_put_n p9_put_c (0 : Int) (0 : Int)) w
    (k4_6 R))) := by kernel_rfl
theorem t4_4 (p0_cpus : Int) (p2_moves_a : Option Addr) (p2_moves_n : Nat) (p2_moves_c : Nat) (p7_q : Option Addr) (p9_put_a : Option Addr) (p9_put_n : Nat) (p9_put_c : Nat) (p11_i : Int) (w : World) (B4_4 : Env → World → Prop) (R : Ending → World → Prop) : den Try.prog M4 c4_4 (e4_4 p0_cpus p2_moves_a p2_moves_n p2_moves_c p7_q p9_put_a p9_put_n p9_put_c p11_i) w (loopK B4_4 (k4_4 R)) =
((decide (p11_i < (↑p2_moves_n : Int)) = true →
    (decide (p11_i < (60 : Int)) = true →
        ∀ (w' : World),
          World.heap w' = World.heap w →
            World.os w' = World.os w →
              World.tape w' = World.tape w →
                World.output w' = World.output w →
                  ((0 : Int) ≤ p11_i ∧ p11_i < (↑p2_moves_n : Int)) ∧
                    ∃ a,
                      p2_moves_a = some a ∧
                        ∃ n,
                          World.cell? w' (Addr.add (Addr.add a (Int.toNat p11_i * 5)) 1) =
                              some (Value.int IntKind.i64 n) ∧
                            ((0 : Int) ≤ p11_i ∧ p11_i < (↑p2_moves_n : Int)) ∧
                              ∃ a,
                                p2_moves_a = some a ∧
                                  ∃ n_1,
                                    World.cell? w' (Addr.add (Addr.add a (Int.toNat p11_i * 5)) 2) =
                                        some (Value.int IntKind.i64 n_1) ∧
                                      Call Try.prog 12
                                        [Value.pointer p7_q, Value.int IntKind.i64 n, Value.int IntKind.i64 n_1] w'
                                        fun e w' =>
                                        ∃ n n_2,
                                          e =
                                              Ending.returned
                                                (Value.tuple #[Value.int IntKind.i64 n, Value.int IntKind.i64 n_2]) ∧
                                            B4_4
                                              [(0, SV.v (Value.int IntKind.i64 p0_cpus)),
                                                (2, SV.v (Value.slice p2_moves_a p2_moves_n p2_moves_c)),
                                                (7, SV.v (Value.pointer p7_q)),
                                                (9, SV.v (Value.slice p9_put_a p9_put_n p9_put_c)),
                                                (11,
                                                  SV.v
                                                    (Value.int IntKind.i64
                                                      (IntKind.wrap IntKind.i64 (p11_i + (1 : Int)))))]
                                              w') ∧
      (decide (p11_i < (60 : Int)) = false →
        CutD Try.prog M4 c4_1 (e4_1 p0_cpus p7_q p9_put_a p9_put_n p9_put_c) w (k4_1 R))) ∧
  (decide (p11_i < (↑p2_moves_n : Int)) = false →
    CutD Try.prog M4 c4_1 (e4_1 p0_cpus p7_q p9_put_a p9_put_n p9_put_c) w (k4_1 R))) := by kernel_rfl
theorem t4_3 (p7_q : Option Addr) (p9_put_a : Option Addr) (p9_put_n : Nat) (p9_put_c : Nat) (p12_many : Int) (w : World) (R : Ending → World → Prop) : den Try.prog M4 c4_3 (e4_3 p7_q p9_put_a p9_put_n p9_put_c p12_many) w (k4_3 R) =
(Cut
  (WP Try.prog 134 (Code.loop c4_7) (e4_7 p7_q p9_put_a p9_put_n p9_put_c p12_many (0 : Int)) w (k4_7 R))) := by kernel_rfl
theorem t4_6 (p0_cpus : Int) (p7_q : Option Addr) (p9_put_a : Option Addr) (p9_put_n : Nat) (p9_put_c : Nat) (p12_many : Int) (p13_c : Int) (w : World) (B4_6 : Env → World → Prop) (R : Ending → World → Prop) : den Try.prog M4 c4_6 (e4_6 p0_cpus p7_q p9_put_a p9_put_n p9_put_c p12_many p13_c) w (loopK B4_6 (k4_6 R)) =
((decide (p13_c < p0_cpus) = true →
    Call Try.prog 13 [Value.pointer p7_q, Value.int IntKind.i64 p13_c] w fun e w' =>
      ∃ n,
        e = Ending.returned (Value.int IntKind.i64 n) ∧
          B4_6
            [(0, SV.v (Value.int IntKind.i64 p0_cpus)), (7, SV.v (Value.pointer p7_q)),
              (9, SV.v (Value.slice p9_put_a p9_put_n p9_put_c)),
              (12, SV.v (Value.int IntKind.i64 (IntKind.wrap IntKind.i64 (p12_many + n)))),
              (13, SV.v (Value.int IntKind.i64 (IntKind.wrap IntKind.i64 (p13_c + (1 : Int)))))]
            w') ∧
  (decide (p13_c < p0_cpus) = false →
    CutD Try.prog M4 c4_3 (e4_3 p7_q p9_put_a p9_put_n p9_put_c p12_many) w (k4_3 R))) := by kernel_rfl
theorem t4_5 (p9_put_a : Option Addr) (p9_put_n : Nat) (p9_put_c : Nat) (p12_many : Int) (w : World) (R : Ending → World → Prop) : den Try.prog M4 c4_5 (e4_5 p9_put_a p9_put_n p9_put_c p12_many) w (k4_5 R) =
(((p12_many == (↑p9_put_n : Int)) = true →
    Call Try.prog 11 [] w fun e w' =>
      ∃ b, e = Ending.returned (Value.bool b) ∧ R (Ending.returned (Value.bool b)) w') ∧
  ((p12_many == (↑p9_put_n : Int)) = false → R (Ending.returned (Value.bool false)) w)) := by kernel_rfl
theorem t4_7 (p7_q : Option Addr) (p9_put_a : Option Addr) (p9_put_n : Nat) (p9_put_c : Nat) (p12_many : Int) (p14_i : Int) (w : World) (B4_7 : Env → World → Prop) (R : Ending → World → Prop) : den Try.prog M4 c4_7 (e4_7 p7_q p9_put_a p9_put_n p9_put_c p12_many p14_i) w (loopK B4_7 (k4_7 R)) =
((decide (p14_i < (↑p9_put_n : Int)) = true →
    ((0 : Int) ≤ p14_i ∧ p14_i < (↑p9_put_n : Int)) ∧
      ∃ a,
        p9_put_a = some a ∧
          ∃ n,
            World.cell? w (Addr.add (Addr.add a (Int.toNat p14_i * 5)) 4) =
                some (Value.int IntKind.i64 n) ∧
              Call Try.prog 8 [Value.pointer p7_q, Value.int IntKind.i64 n] w fun e w' =>
                ∃ n b,
                  e = Ending.returned (Value.tuple #[Value.int IntKind.i64 n, Value.bool b]) ∧
                    ((!b) = false →
                        ((0 : Int) ≤ p14_i ∧ p14_i < (↑p9_put_n : Int)) ∧
                          ∃ a,
                            p9_put_a = some a ∧
                              ∃ n_1,
                                World.cell? w' (Addr.add (Addr.add a (Int.toNat p14_i * 5)) 3) =
                                    some (Value.int IntKind.i64 n_1) ∧
                                  ((n != n_1) = true → R (Ending.returned (Value.bool false)) w') ∧
                                    ((n != n_1) = false →
                                      B4_7
                                        [(7, SV.v (Value.pointer p7_q)),
                                          (9, SV.v (Value.slice p9_put_a p9_put_n p9_put_c)),
                                          (12, SV.v (Value.int IntKind.i64 p12_many)),
                                          (14,
                                            SV.v
                                              (Value.int IntKind.i64 (IntKind.wrap IntKind.i64 (p14_i + (1 : Int)))))]
                                        w')) ∧
                      ((!b) = true → R (Ending.returned (Value.bool false)) w')) ∧
  (decide (p14_i < (↑p9_put_n : Int)) = false →
    CutD Try.prog M4 c4_5 (e4_5 p9_put_a p9_put_n p9_put_c p12_many) w (k4_5 R))) := by kernel_rfl
/-! davit/runq.New -/
def M5 : Mt := { N := 38, keep := [(0, [0]), (1, [0, 12]), (2, [2, 3]), (3, [0, 4]), (4, [4, 16, 17]), (5, [4, 16, 17, 18]), (6, [4, 5, 6, 16, 17]), (7, [4, 5, 6, 16, 17, 24]), (8, [2, 3]), (9, [4, 16, 17]), (10, [4, 16, 17]), (11, [2, 3])], ords := [], bk := [(0, [4]), (1, [4, 16, 17])], cuts := [], lk := [(5, [4, 16, 17])] }
noncomputable def c5 : Code := bodyOf Try.f5
noncomputable def c5_0 : Code := c5.sr.sr.sr.sr
noncomputable def c5_1 : Code := c5.sr.sr.sr.sl.sr.sl.sl
def e5_1 (p4_r : Option Addr) (p16_t : Int) (p17_t : Int) : Env := [(4, SV.v (Value.pointer p4_r)), (16, SV.v (Value.int IntKind.i64 p16_t)), (17, SV.v (Value.int IntKind.i64 p17_t))]
def k5_1 (R : Ending → World → Prop) : Cont := blockK 0 [4] (seqK (fun E w => cutB (findL M5.cuts (headReg c5_0)) Try.prog M5 c5_0 E w (retK Try.prog Try.f5.results.toList R) fun E => den Try.prog M5 c5_0 E w (retK Try.prog Try.f5.results.toList R)) (retK Try.prog Try.f5.results.toList R))
theorem b5 : Try.f5.body = some c5 := by kernel_rfl
theorem n5 : Try.f5.ntmps = M5.N := by kernel_rfl
theorem u5 {p0_cpus : Int} {w : World} {R : Ending → World → Prop} (h : den Try.prog M5 c5 (argE 0 [(Value.int IntKind.i64 p0_cpus)]) w (retK Try.prog Try.f5.results.toList R)) : Calls Try.prog 5 #[(Value.int IntKind.i64 p0_cpus)] w R := calls_den okProg Try.func5 b5 n5 (Nat.le_of_ble_eq_true rfl) h
theorem t5 (p0_cpus : Int) (w : World) (R : Ending → World → Prop) : den Try.prog M5 c5 (argE 0 [(Value.int IntKind.i64 p0_cpus)]) w (retK Try.prog Try.f5.results.toList R) =
((decide (p0_cpus < (1 : Int)) = false →
    (decide (p0_cpus > (64 : Int)) = true →
        R (Ending.returned (Value.tuple #[Value.pointer none, Value.int IntKind.i64 2])) w) ∧
      (decide (p0_cpus > (64 : Int)) = false →
        NewMap w fun r w' =>
          New w' [Value.slice none 0 0, Value.map (some r)] 45 fun p w' =>
            Cut (WP Try.prog 38 (Code.loop c5_1) (e5_1 (some p) p0_cpus (0 : Int)) w' (k5_1 R)))) ∧
  (decide (p0_cpus < (1 : Int)) = true →
    R (Ending.returned (Value.tuple #[Value.pointer none, Value.int IntKind.i64 2])) w)) := by kernel_rfl
theorem t5_1 (p4_r : Option Addr) (p16_t : Int) (p17_t : Int) (w : World) (B5_1 : Env → World → Prop) (R : Ending → World → Prop) : den Try.prog M5 c5_1 (e5_1 p4_r p16_t p17_t) w (loopK B5_1 (k5_1 R)) =
((decide (p17_t < p16_t) = true →
    Call Try.prog 14 [Value.int IntKind.i64 32] w fun e w' =>
      ∃ p n,
        e = Ending.returned (Value.tuple #[Value.pointer p, Value.int IntKind.i64 n]) ∧
          ((n != (0 : Int)) = true →
              R (Ending.returned (Value.tuple #[Value.pointer none, Value.int IntKind.i64 n])) w') ∧
            ((n != (0 : Int)) = false →
              ∃ a,
                p4_r = some a ∧
                  ∃ p_1 n c,
                    World.cell? w' (Addr.add a 0) = some (Value.slice p_1 n c) ∧
                      New w' [Value.pointer p] 46 fun p w' =>
                        ∃ p_2 n_1 c_1 w'_1,
                          Sem.run Try.prog
                                (Builtin.append_ #[43, 43] 43
                                  #[Value.slice p_1 n c, Value.slice (some p) 1 1])
                                w' =
                              Result.ok (Value.slice p_2 n_1 c_1) w'_1 ∧
                            ∃ a,
                              p4_r = some a ∧
                                Wr w'_1 (Addr.add a 0) [Value.slice p_2 n_1 c_1] fun w' =>
                                  B5_1
                                    [(4, SV.v (Value.pointer p4_r)),
                                      (16, SV.v (Value.int IntKind.i64 p16_t)),
                                      (17,
                                        SV.v (Value.int IntKind.i64 (IntKind.wrap IntKind.i64 (p17_t + (1 : Int)))))]
                                    w')) ∧
  (decide (p17_t < p16_t) = false →
    R (Ending.returned (Value.tuple #[Value.pointer p4_r, Value.int IntKind.i64 0])) w)) := by kernel_rfl
/-! (*davit/runq.Runq).Put -/
def M6 : Mt := { N := 48, keep := [(0, [0, 1, 2, 3]), (1, [0, 1, 2, 3, 9]), (2, [0, 1, 2, 3, 9, 17]), (3, [8]), (4, [0, 1, 2, 3, 11]), (5, [0, 1, 2, 3, 28]), (6, [8]), (7, [0, 1, 3, 12]), (8, [0, 1, 3, 12, 40]), (9, [12]), (10, [8])], ords := [], bk := [], cuts := [], lk := [] }
noncomputable def c6 : Code := bodyOf Try.f6
theorem b6 : Try.f6.body = some c6 := by kernel_rfl
theorem n6 : Try.f6.ntmps = M6.N := by kernel_rfl
theorem u6 {p0_r : Option Addr} {p1_cpu : Int} {p2_prio : Int} {p3_id : Int} {w : World} {R : Ending → World → Prop} (h : den Try.prog M6 c6 (argE 0 [(Value.pointer p0_r), (Value.int IntKind.i64 p1_cpu), (Value.int IntKind.i64 p2_prio), (Value.int IntKind.i64 p3_id)]) w (retK Try.prog Try.f6.results.toList R)) : Calls Try.prog 6 #[(Value.pointer p0_r), (Value.int IntKind.i64 p1_cpu), (Value.int IntKind.i64 p2_prio), (Value.int IntKind.i64 p3_id)] w R := calls_den okProg Try.func6 b6 n6 (Nat.le_of_ble_eq_true rfl) h
theorem t6 (p0_r : Option Addr) (p1_cpu : Int) (p2_prio : Int) (p3_id : Int) (w : World) (R : Ending → World → Prop) : den Try.prog M6 c6 (argE 0 [(Value.pointer p0_r), (Value.int IntKind.i64 p1_cpu), (Value.int IntKind.i64 p2_prio), (Value.int IntKind.i64 p3_id)]) w (retK Try.prog Try.f6.results.toList R) =
(Call Try.prog 15 [Value.pointer p0_r, Value.int IntKind.i64 p1_cpu] w fun e w' =>
  ∃ n,
    e = Ending.returned (Value.int IntKind.i64 n) ∧
      ((n != (0 : Int)) = true → R (Ending.returned (Value.int IntKind.i64 n)) w') ∧
        ((n != (0 : Int)) = false →
          ∃ a,
            p0_r = some a ∧
              ∃ r,
                World.cell? w' (Addr.add a 1) = some (Value.map r) ∧
                  ∃ n b,
                    Sem.run Try.prog (Instr.lookup 42 (Value.map r) (Value.int IntKind.i64 p3_id) true) w' =
                        Result.ok (Value.tuple #[Value.int IntKind.i64 n, Value.bool b]) w' ∧
                      (b = true → R (Ending.returned (Value.int IntKind.i64 6)) w') ∧
                        (b = false →
                          ∃ a,
                            p0_r = some a ∧
                              ∃ p n c,
                                World.cell? w' (Addr.add a 0) = some (Value.slice p n c) ∧
                                  ((0 : Int) ≤ p1_cpu ∧ p1_cpu < (↑n : Int)) ∧
                                    ∃ a,
                                      p = some a ∧
                                        ∃ p,
                                          World.cell? w' (Addr.add a (Int.toNat p1_cpu * 1)) =
                                              some (Value.pointer p) ∧
                                            Call Try.prog 16
                                              [Value.pointer p, Value.int IntKind.i64 p2_prio,
                                                Value.int IntKind.i64 p3_id]
                                              w' fun e w' =>
                                              ∃ n,
                                                e = Ending.returned (Value.int IntKind.i64 n) ∧
                                                  ((n == (0 : Int)) = true →
                                                      ∃ a,
                                                        p0_r = some a ∧
                                                          ∃ r,
                                                            World.cell? w' (Addr.add a 1) = some (Value.map r) ∧
                                                              ∃ w'_1,
                                                                Sem.run Try.prog
                                                                      (Instr.mapUpdate 42 (Value.map r)
                                                                        (Value.int IntKind.i64 p3_id)
                                                                        (Value.int IntKind.i64 p1_cpu))
                                                                      w' =
                                                                    Result.ok () w'_1 ∧
                                                                  R (Ending.returned (Value.int IntKind.i64 n)) w'_1) ∧
                                                    ((n == (0 : Int)) = false →
                                                      R (Ending.returned (Value.int IntKind.i64 n)) w')))) := by kernel_rfl
/-! (*davit/runq.Runq).List -/
def M7 : Mt := { N := 17, keep := [(0, [0, 1]), (1, [0, 1, 8]), (2, [4]), (3, [4])], ords := [], bk := [], cuts := [], lk := [] }
noncomputable def c7 : Code := bodyOf Try.f7
theorem b7 : Try.f7.body = some c7 := by kernel_rfl
theorem n7 : Try.f7.ntmps = M7.N := by kernel_rfl
theorem u7 {p0_r : Option Addr} {p1_cpu : Int} {w : World} {R : Ending → World → Prop} (h : den Try.prog M7 c7 (argE 0 [(Value.pointer p0_r), (Value.int IntKind.i64 p1_cpu)]) w (retK Try.prog Try.f7.results.toList R)) : Calls Try.prog 7 #[(Value.pointer p0_r), (Value.int IntKind.i64 p1_cpu)] w R := calls_den okProg Try.func7 b7 n7 (Nat.le_of_ble_eq_true rfl) h
theorem t7 (p0_r : Option Addr) (p1_cpu : Int) (w : World) (R : Ending → World → Prop) : den Try.prog M7 c7 (argE 0 [(Value.pointer p0_r), (Value.int IntKind.i64 p1_cpu)]) w (retK Try.prog Try.f7.results.toList R) =
(Call Try.prog 15 [Value.pointer p0_r, Value.int IntKind.i64 p1_cpu] w fun e w' =>
  ∃ n,
    e = Ending.returned (Value.int IntKind.i64 n) ∧
      ((n != (0 : Int)) = true → R (Ending.returned (Value.slice none 0 0)) w') ∧
        ((n != (0 : Int)) = false →
          ∃ a,
            p0_r = some a ∧
              ∃ p n c,
                World.cell? w' (Addr.add a 0) = some (Value.slice p n c) ∧
                  ((0 : Int) ≤ p1_cpu ∧ p1_cpu < (↑n : Int)) ∧
                    ∃ a,
                      p = some a ∧
                        ∃ p,
                          World.cell? w' (Addr.add a (Int.toNat p1_cpu * 1)) = some (Value.pointer p) ∧
                            Call Try.prog 17 [Value.pointer p] w' fun e w' =>
                              ∃ p n c,
                                e = Ending.returned (Value.slice p n c) ∧ R (Ending.returned (Value.slice p n c)) w')) := by kernel_rfl
/-! (*davit/runq.Runq).Prio -/
def M8 : Mt := { N := 27, keep := [(0, [0, 1]), (1, [0, 1, 6, 7]), (2, [0, 1, 6, 15]), (3, [4, 5]), (4, [4, 5])], ords := [], bk := [], cuts := [], lk := [] }
noncomputable def c8 : Code := bodyOf Try.f8
theorem b8 : Try.f8.body = some c8 := by kernel_rfl
theorem n8 : Try.f8.ntmps = M8.N := by kernel_rfl
theorem u8 {p0_r : Option Addr} {p1_id : Int} {w : World} {R : Ending → World → Prop} (h : den Try.prog M8 c8 (argE 0 [(Value.pointer p0_r), (Value.int IntKind.i64 p1_id)]) w (retK Try.prog Try.f8.results.toList R)) : Calls Try.prog 8 #[(Value.pointer p0_r), (Value.int IntKind.i64 p1_id)] w R := calls_den okProg Try.func8 b8 n8 (Nat.le_of_ble_eq_true rfl) h
theorem t8 (p0_r : Option Addr) (p1_id : Int) (w : World) (R : Ending → World → Prop) : den Try.prog M8 c8 (argE 0 [(Value.pointer p0_r), (Value.int IntKind.i64 p1_id)]) w (retK Try.prog Try.f8.results.toList R) =
(Call Try.prog 18 [Value.pointer p0_r, Value.int IntKind.i64 p1_id] w fun e w' =>
  ∃ n b,
    e = Ending.returned (Value.tuple #[Value.int IntKind.i64 n, Value.bool b]) ∧
      ((!b) = true → R (Ending.returned (Value.tuple #[Value.int IntKind.i64 0, Value.bool false])) w') ∧
        ((!b) = false →
          ∃ a,
            p0_r = some a ∧
              ∃ p n_1 c,
                World.cell? w' (Addr.add a 0) = some (Value.slice p n_1 c) ∧
                  ((0 : Int) ≤ n ∧ n < (↑n_1 : Int)) ∧
                    ∃ a,
                      p = some a ∧
                        ∃ p,
                          World.cell? w' (Addr.add a (Int.toNat n * 1)) = some (Value.pointer p) ∧
                            Call Try.prog 19 [Value.pointer p, Value.int IntKind.i64 p1_id] w' fun e w' =>
                              ∃ n b,
                                e = Ending.returned (Value.tuple #[Value.int IntKind.i64 n, Value.bool b]) ∧
                                  R (Ending.returned (Value.tuple #[Value.int IntKind.i64 n, Value.bool b])) w')) := by kernel_rfl
/-! (*davit/runq.Runq).Pick -/
def M9 : Mt := { N := 38, keep := [(0, [0, 1]), (1, [0, 1, 6]), (2, [0, 1, 6, 13]), (3, [4, 5]), (4, [0, 1, 7, 8]), (5, [0, 1, 7, 8, 27]), (6, [4, 5]), (7, [4, 5])], ords := [], bk := [], cuts := [], lk := [] }
noncomputable def c9 : Code := bodyOf Try.f9
theorem b9 : Try.f9.body = some c9 := by kernel_rfl
theorem n9 : Try.f9.ntmps = M9.N := by kernel_rfl
theorem u9 {p0_r : Option Addr} {p1_cpu : Int} {w : World} {R : Ending → World → Prop} (h : den Try.prog M9 c9 (argE 0 [(Value.pointer p0_r), (Value.int IntKind.i64 p1_cpu)]) w (retK Try.prog Try.f9.results.toList R)) : Calls Try.prog 9 #[(Value.pointer p0_r), (Value.int IntKind.i64 p1_cpu)] w R := calls_den okProg Try.func9 b9 n9 (Nat.le_of_ble_eq_true rfl) h
theorem t9 (p0_r : Option Addr) (p1_cpu : Int) (w : World) (R : Ending → World → Prop) : den Try.prog M9 c9 (argE 0 [(Value.pointer p0_r), (Value.int IntKind.i64 p1_cpu)]) w (retK Try.prog Try.f9.results.toList R) =
(Call Try.prog 15 [Value.pointer p0_r, Value.int IntKind.i64 p1_cpu] w fun e w' =>
  ∃ n,
    e = Ending.returned (Value.int IntKind.i64 n) ∧
      ((n != (0 : Int)) = true →
          R (Ending.returned (Value.tuple #[Value.int IntKind.i64 0, Value.int IntKind.i64 n])) w') ∧
        ((n != (0 : Int)) = false →
          ∃ a,
            p0_r = some a ∧
              ∃ p n c,
                World.cell? w' (Addr.add a 0) = some (Value.slice p n c) ∧
                  ((0 : Int) ≤ p1_cpu ∧ p1_cpu < (↑n : Int)) ∧
                    ∃ a,
                      p = some a ∧
                        ∃ p,
                          World.cell? w' (Addr.add a (Int.toNat p1_cpu * 1)) = some (Value.pointer p) ∧
                            Call Try.prog 20 [Value.pointer p] w' fun e w' =>
                              ∃ n n_1,
                                e =
                                    Ending.returned
                                      (Value.tuple #[Value.int IntKind.i64 n, Value.int IntKind.i64 n_1]) ∧
                                  ((n_1 != (0 : Int)) = true →
                                      R
                                        (Ending.returned
                                          (Value.tuple #[Value.int IntKind.i64 0, Value.int IntKind.i64 n_1]))
                                        w') ∧
                                    ((n_1 != (0 : Int)) = false →
                                      ∃ a,
                                        p0_r = some a ∧
                                          ∃ p n_2 c,
                                            World.cell? w' (Addr.add a 0) = some (Value.slice p n_2 c) ∧
                                              ((0 : Int) ≤ p1_cpu ∧ p1_cpu < (↑n_2 : Int)) ∧
                                                ∃ a,
                                                  p = some a ∧
                                                    ∃ p,
                                                      World.cell? w' (Addr.add a (Int.toNat p1_cpu * 1)) =
                                                          some (Value.pointer p) ∧
                                                        Call Try.prog 21 [Value.pointer p] w' fun e w' =>
                                                          ∃ n_3,
                                                            e = Ending.returned (Value.int IntKind.i64 n_3) ∧
                                                              R
                                                                (Ending.returned
                                                                  (Value.tuple
                                                                    #[Value.int IntKind.i64 n,
                                                                      Value.int IntKind.i64 n_3]))
                                                                w'))) := by kernel_rfl
/-! davit/davitref01.Ints -/
def M10 : Mt := { N := 26, keep := [(0, [0, 1]), (1, [0, 1, 10]), (2, [4]), (3, [0, 1, 5]), (4, [0, 1, 5, 14]), (5, [0, 1, 5]), (6, [0, 1, 5, 25]), (7, [4]), (8, [4])], ords := [(6, [0, 1, 2, 3, 4, 5, 6, 7, 8])], bk := [(0, []), (1, [0, 1, 5])], cuts := [], lk := [(4, [0, 1, 5])] }
noncomputable def c10 : Code := bodyOf Try.f10
noncomputable def c10_0 : Code := c10.sr.sr.sr
noncomputable def c10_1 : Code := c10.sr.sr.sl.sr.sl.sl
def e10_1 (p0_a_a : Option Addr) (p0_a_n : Nat) (p0_a_c : Nat) (p1_b_a : Option Addr) (p1_b_n : Nat) (p1_b_c : Nat) (p5_i : Int) : Env := [(0, SV.v (Value.slice p0_a_a p0_a_n p0_a_c)), (1, SV.v (Value.slice p1_b_a p1_b_n p1_b_c)), (5, SV.v (Value.int IntKind.i64 p5_i))]
def k10_1 (R : Ending → World → Prop) : Cont := blockK 0 [] (seqK (fun E w => cutB (findL M10.cuts (headReg c10_0)) Try.prog M10 c10_0 E w (retK Try.prog Try.f10.results.toList R) fun E => den Try.prog M10 c10_0 E w (retK Try.prog Try.f10.results.toList R)) (retK Try.prog Try.f10.results.toList R))
theorem b10 : Try.f10.body = some c10 := by kernel_rfl
theorem n10 : Try.f10.ntmps = M10.N := by kernel_rfl
theorem u10 {p0_a_a : Option Addr} {p0_a_n : Nat} {p0_a_c : Nat} {p1_b_a : Option Addr} {p1_b_n : Nat} {p1_b_c : Nat} {w : World} {R : Ending → World → Prop} (h : den Try.prog M10 c10 (argE 0 [(Value.slice p0_a_a p0_a_n p0_a_c), (Value.slice p1_b_a p1_b_n p1_b_c)]) w (retK Try.prog Try.f10.results.toList R)) : Calls Try.prog 10 #[(Value.slice p0_a_a p0_a_n p0_a_c), (Value.slice p1_b_a p1_b_n p1_b_c)] w R := calls_den okProg Try.func10 b10 n10 (Nat.le_of_ble_eq_true rfl) h
theorem t10 (p0_a_a : Option Addr) (p0_a_n : Nat) (p0_a_c : Nat) (p1_b_a : Option Addr) (p1_b_n : Nat) (p1_b_c : Nat) (w : World) (R : Ending → World → Prop) : den Try.prog M10 c10 (argE 0 [(Value.slice p0_a_a p0_a_n p0_a_c), (Value.slice p1_b_a p1_b_n p1_b_c)]) w (retK Try.prog Try.f10.results.toList R) =
((((↑p0_a_n : Int) != (↑p1_b_n : Int)) = true → R (Ending.returned (Value.bool false)) w) ∧
  (((↑p0_a_n : Int) != (↑p1_b_n : Int)) = false →
    Cut
      (WP Try.prog 26 (Code.loop c10_1) (e10_1 p0_a_a p0_a_n p0_a_c p1_b_a p1_b_n p1_b_c (0 : Int)) w
        (k10_1 R)))) := by kernel_rfl
theorem t10_1 (p0_a_a : Option Addr) (p0_a_n : Nat) (p0_a_c : Nat) (p1_b_a : Option Addr) (p1_b_n : Nat) (p1_b_c : Nat) (p5_i : Int) (w : World) (B10_1 : Env → World → Prop) (R : Ending → World → Prop) : den Try.prog M10 c10_1 (e10_1 p0_a_a p0_a_n p0_a_c p1_b_a p1_b_n p1_b_c p5_i) w (loopK B10_1 (k10_1 R)) =
((decide (p5_i < (↑p0_a_n : Int)) = true →
    ∀ (w' : World),
      World.heap w' = World.heap w →
        World.os w' = World.os w →
          World.tape w' = World.tape w →
            World.output w' = World.output w →
              ((0 : Int) ≤ p5_i ∧ p5_i < (↑p0_a_n : Int)) ∧
                ∃ a,
                  p0_a_a = some a ∧
                    ∃ n,
                      World.cell? w' (Addr.add a (Int.toNat p5_i * 1)) = some (Value.int IntKind.i64 n) ∧
                        ((0 : Int) ≤ p5_i ∧ p5_i < (↑p1_b_n : Int)) ∧
                          ∃ a,
                            p1_b_a = some a ∧
                              ∃ n_1,
                                World.cell? w' (Addr.add a (Int.toNat p5_i * 1)) =
                                    some (Value.int IntKind.i64 n_1) ∧
                                  ((n != n_1) = true → R (Ending.returned (Value.bool false)) w') ∧
                                    ((n != n_1) = false →
                                      B10_1
                                        [(0, SV.v (Value.slice p0_a_a p0_a_n p0_a_c)),
                                          (1, SV.v (Value.slice p1_b_a p1_b_n p1_b_c)),
                                          (5,
                                            SV.v
                                              (Value.int IntKind.i64 (IntKind.wrap IntKind.i64 (p5_i + (1 : Int)))))]
                                        w')) ∧
  (decide (p5_i < (↑p0_a_n : Int)) = false → R (Ending.returned (Value.bool true)) w)) := by kernel_rfl
/-! davit/davitlaw10.known -/
def M11 : Mt := { N := 64, keep := [(0, []), (1, [1, 2]), (2, [1, 18]), (3, [0]), (4, [1]), (5, [1]), (6, [1, 3, 4]), (7, [1, 3, 4, 5, 6]), (8, [1, 3, 4, 5, 6, 7, 8]), (9, [0])], ords := [], bk := [], cuts := [], lk := [] }
noncomputable def c11 : Code := bodyOf Try.f11
theorem b11 : Try.f11.body = some c11 := by kernel_rfl
theorem n11 : Try.f11.ntmps = M11.N := by kernel_rfl
theorem u11  {w : World} {R : Ending → World → Prop} (h : den Try.prog M11 c11 (argE 0 []) w (retK Try.prog Try.f11.results.toList R)) : Calls Try.prog 11 #[] w R := calls_den okProg Try.func11 b11 n11 (Nat.le_of_ble_eq_true rfl) h
theorem t11  (w : World) (R : Ending → World → Prop) : den Try.prog M11 c11 (argE 0 []) w (retK Try.prog Try.f11.results.toList R) =
(Call Try.prog 5 [Value.int IntKind.i64 2] w fun e w' =>
  ∃ p n,
    e = Ending.returned (Value.tuple #[Value.pointer p, Value.int IntKind.i64 n]) ∧
      ((n != (0 : Int)) = false →
          (Option.isNone p = true → R (Ending.returned (Value.bool false)) w') ∧
            (Option.isNone p = false →
              Call Try.prog 6
                [Value.pointer p, Value.int IntKind.i64 0, Value.int IntKind.i64 1,
                  Value.int IntKind.i64 5]
                w' fun e w' =>
                ∃ n,
                  e = Ending.returned (Value.int IntKind.i64 n) ∧
                    Call Try.prog 6
                      [Value.pointer p, Value.int IntKind.i64 0, Value.int IntKind.i64 2,
                        Value.int IntKind.i64 6]
                      w' fun e w' =>
                      ∃ n,
                        e = Ending.returned (Value.int IntKind.i64 n) ∧
                          Call Try.prog 9 [Value.pointer p, Value.int IntKind.i64 0] w' fun e w' =>
                            ∃ n n_1,
                              e = Ending.returned (Value.tuple #[Value.int IntKind.i64 n, Value.int IntKind.i64 n_1]) ∧
                                Call Try.prog 12
                                  [Value.pointer p, Value.int IntKind.i64 0, Value.int IntKind.i64 1] w'
                                  fun e w' =>
                                  ∃ n_2 n_3,
                                    e =
                                        Ending.returned
                                          (Value.tuple #[Value.int IntKind.i64 n_2, Value.int IntKind.i64 n_3]) ∧
                                      Call Try.prog 18 [Value.pointer p, Value.int IntKind.i64 5] w'
                                        fun e w' =>
                                        ∃ n_4 b,
                                          e = Ending.returned (Value.tuple #[Value.int IntKind.i64 n_4, Value.bool b]) ∧
                                            ((n == (6 : Int)) = true →
                                                ((n_1 == (0 : Int)) = true →
                                                    ((n_2 == (5 : Int)) = true →
                                                        ((n_3 == (0 : Int)) = true →
                                                            ((n_4 == (1 : Int)) = true →
                                                                (b = true →
                                                                    Call Try.prog 13
                                                                      [Value.pointer p, Value.int IntKind.i64 0]
                                                                      w' fun e w' =>
                                                                      ∃ n,
                                                                        e = Ending.returned (Value.int IntKind.i64 n) ∧
                                                                          R
                                                                            (Ending.returned
                                                                              (Value.bool (n == (1 : Int))))
                                                                            w') ∧
                                                                  (b = false →
                                                                    R (Ending.returned (Value.bool false)) w')) ∧
                                                              ((n_4 == (1 : Int)) = false →
                                                                R (Ending.returned (Value.bool false)) w')) ∧
                                                          ((n_3 == (0 : Int)) = false →
                                                            R (Ending.returned (Value.bool false)) w')) ∧
                                                      ((n_2 == (5 : Int)) = false →
                                                        R (Ending.returned (Value.bool false)) w')) ∧
                                                  ((n_1 == (0 : Int)) = false →
                                                    R (Ending.returned (Value.bool false)) w')) ∧
                                              ((n == (6 : Int)) = false →
                                                R (Ending.returned (Value.bool false)) w'))) ∧
        ((n != (0 : Int)) = true → R (Ending.returned (Value.bool false)) w')) := by kernel_rfl
/-! (*davit/runq.Runq).Move -/
def M12 : Mt := { N := 79, keep := [(0, [0, 1, 2]), (1, [0, 1, 2, 8]), (2, [0, 1, 2, 8, 19]), (3, [6, 7]), (4, [0, 1, 2, 9]), (5, [0, 1, 2, 9, 25]), (6, [6, 7]), (7, [0, 1, 2, 10]), (8, [0, 1, 2, 10, 30]), (9, [6, 7]), (10, [0, 1, 2, 10, 34]), (11, [6, 7]), (12, [0, 1, 2, 11]), (13, [0, 1, 2, 11, 12]), (14, [0, 1, 2, 11, 14]), (15, [0, 1, 2, 11, 14, 61]), (16, [6, 7]), (17, [0, 1, 11]), (18, [6, 7])], ords := [], bk := [(0, [0, 1, 2, 10])], cuts := [], lk := [] }
noncomputable def c12 : Code := bodyOf Try.f12
theorem b12 : Try.f12.body = some c12 := by kernel_rfl
theorem n12 : Try.f12.ntmps = M12.N := by kernel_rfl
theorem u12 {p0_r : Option Addr} {p1_from : Int} {p2_to : Int} {w : World} {R : Ending → World → Prop} (h : den Try.prog M12 c12 (argE 0 [(Value.pointer p0_r), (Value.int IntKind.i64 p1_from), (Value.int IntKind.i64 p2_to)]) w (retK Try.prog Try.f12.results.toList R)) : Calls Try.prog 12 #[(Value.pointer p0_r), (Value.int IntKind.i64 p1_from), (Value.int IntKind.i64 p2_to)] w R := calls_den okProg Try.func12 b12 n12 (Nat.le_of_ble_eq_true rfl) h
theorem t12 (p0_r : Option Addr) (p1_from : Int) (p2_to : Int) (w : World) (R : Ending → World → Prop) : den Try.prog M12 c12 (argE 0 [(Value.pointer p0_r), (Value.int IntKind.i64 p1_from), (Value.int IntKind.i64 p2_to)]) w (retK Try.prog Try.f12.results.toList R) =
(Call Try.prog 15 [Value.pointer p0_r, Value.int IntKind.i64 p1_from] w fun e w' =>
  ∃ n,
    e = Ending.returned (Value.int IntKind.i64 n) ∧
      ((n != (0 : Int)) = true →
          R (Ending.returned (Value.tuple #[Value.int IntKind.i64 0, Value.int IntKind.i64 n])) w') ∧
        ((n != (0 : Int)) = false →
          Call Try.prog 15 [Value.pointer p0_r, Value.int IntKind.i64 p2_to] w' fun e w' =>
            ∃ n,
              e = Ending.returned (Value.int IntKind.i64 n) ∧
                ((n != (0 : Int)) = true →
                    R (Ending.returned (Value.tuple #[Value.int IntKind.i64 0, Value.int IntKind.i64 n])) w') ∧
                  ((n != (0 : Int)) = false →
                    Call Try.prog 7 [Value.pointer p0_r, Value.int IntKind.i64 p1_from] w' fun e w' =>
                      ∃ p n c,
                        e = Ending.returned (Value.slice p n c) ∧
                          ((p1_from == p2_to) = true →
                              R
                                (Ending.returned
                                  (Value.tuple #[Value.int IntKind.i64 0, Value.int IntKind.i64 2]))
                                w') ∧
                            ((p1_from == p2_to) = false →
                              (((↑n : Int) == (0 : Int)) = true →
                                  R
                                    (Ending.returned
                                      (Value.tuple
                                        #[Value.int IntKind.i64 0, Value.int IntKind.i64 12]))
                                    w') ∧
                                (((↑n : Int) == (0 : Int)) = false →
                                  ((0 : Int) ≤ IntKind.wrap IntKind.i64 ((↑n : Int) - (1 : Int)) ∧
                                      IntKind.wrap IntKind.i64 ((↑n : Int) - (1 : Int)) < (↑n : Int)) ∧
                                    ∃ a,
                                      p = some a ∧
                                        ∃ n_1,
                                          World.cell? w'
                                                (Addr.add a
                                                  (Int.toNat (IntKind.wrap IntKind.i64 ((↑n : Int) - (1 : Int))) *
                                                    1)) =
                                              some (Value.int IntKind.i64 n_1) ∧
                                            Call Try.prog 8 [Value.pointer p0_r, Value.int IntKind.i64 n_1] w'
                                              fun e w' =>
                                              ∃ n b,
                                                e =
                                                    Ending.returned
                                                      (Value.tuple #[Value.int IntKind.i64 n, Value.bool b]) ∧
                                                  ∃ a,
                                                    p0_r = some a ∧
                                                      ∃ p n_2 c,
                                                        World.cell? w' (Addr.add a 0) =
                                                            some (Value.slice p n_2 c) ∧
                                                          ((0 : Int) ≤ p2_to ∧ p2_to < (↑n_2 : Int)) ∧
                                                            ∃ a,
                                                              p = some a ∧
                                                                ∃ p,
                                                                  World.cell? w'
                                                                        (Addr.add a (Int.toNat p2_to * 1)) =
                                                                      some (Value.pointer p) ∧
                                                                    Call Try.prog 16
                                                                      [Value.pointer p, Value.int IntKind.i64 n,
                                                                        Value.int IntKind.i64 n_1]
                                                                      w' fun e w' =>
                                                                      ∃ n,
                                                                        e = Ending.returned (Value.int IntKind.i64 n) ∧
                                                                          ((n != (0 : Int)) = true →
                                                                              R
                                                                                (Ending.returned
                                                                                  (Value.tuple
                                                                                    #[Value.int IntKind.i64 0,
                                                                                      Value.int IntKind.i64 n]))
                                                                                w') ∧
                                                                            ((n != (0 : Int)) = false →
                                                                              ∃ a,
                                                                                p0_r = some a ∧
                                                                                  ∃ r,
                                                                                    World.cell? w'
                                                                                          (Addr.add a 1) =
                                                                                        some (Value.map r) ∧
                                                                                      ∃ w'_1,
                                                                                        Sem.run Try.prog
                                                                                              (Instr.mapUpdate
                                                                                                42 (Value.map r)
                                                                                                (Value.int IntKind.i64
                                                                                                  n_1)
                                                                                                (Value.int IntKind.i64
                                                                                                  p2_to))
                                                                                              w' =
                                                                                            Result.ok () w'_1 ∧
                                                                                          ∃ a,
                                                                                            p0_r = some a ∧
                                                                                              ∃ p n c,
                                                                                                World.cell? w'_1
                                                                                                      (Addr.add a
                                                                                                        0) =
                                                                                                    some
                                                                                                      (Value.slice p n
                                                                                                        c) ∧
                                                                                                  ((0 : Int) ≤
                                                                                                        p1_from ∧
                                                                                                      p1_from <
                                                                                                        (↑n : Int)) ∧
                                                                                                    ∃ a,
                                                                                                      p = some a ∧
                                                                                                        ∃ p,
                                                                                                          World.cell?
                                                                                                                w'_1
                                                                                                                (Addr.add
                                                                                                                  a
                                                                                                                  (Int.toNat
                                                                                                                      p1_from *
                                                                                                                    1)) =
                                                                                                              some
                                                                                                                (Value.pointer
                                                                                                                  p) ∧
                                                                                                            Call
                                                                                                              Try.prog
                                                                                                              22
                                                                                                              [Value.pointer
                                                                                                                  p,
                                                                                                                Value.int
                                                                                                                  IntKind.i64
                                                                                                                  n_1]
                                                                                                              w'_1
                                                                                                              fun e
                                                                                                                w' =>
                                                                                                              ∃ n,
                                                                                                                e =
                                                                                                                    Ending.returned
                                                                                                                      (Value.int
                                                                                                                        IntKind.i64
                                                                                                                        n) ∧
                                                                                                                  R
                                                                                                                    (Ending.returned
                                                                                                                      (Value.tuple
                                                                                                                        #[Value.int
                                                                                                                            IntKind.i64
                                                                                                                            n_1,
                                                                                                                          Value.int
                                                                                                                            IntKind.i64
                                                                                                                            n]))
                                                                                                                    w')))))) := by kernel_rfl
/-! (*davit/runq.Runq).Load -/
def M13 : Mt := { N := 17, keep := [(0, [0, 1]), (1, [0, 1, 8]), (2, [4]), (3, [4])], ords := [], bk := [], cuts := [], lk := [] }
noncomputable def c13 : Code := bodyOf Try.f13
theorem b13 : Try.f13.body = some c13 := by kernel_rfl
theorem n13 : Try.f13.ntmps = M13.N := by kernel_rfl
theorem u13 {p0_r : Option Addr} {p1_cpu : Int} {w : World} {R : Ending → World → Prop} (h : den Try.prog M13 c13 (argE 0 [(Value.pointer p0_r), (Value.int IntKind.i64 p1_cpu)]) w (retK Try.prog Try.f13.results.toList R)) : Calls Try.prog 13 #[(Value.pointer p0_r), (Value.int IntKind.i64 p1_cpu)] w R := calls_den okProg Try.func13 b13 n13 (Nat.le_of_ble_eq_true rfl) h
theorem t13 (p0_r : Option Addr) (p1_cpu : Int) (w : World) (R : Ending → World → Prop) : den Try.prog M13 c13 (argE 0 [(Value.pointer p0_r), (Value.int IntKind.i64 p1_cpu)]) w (retK Try.prog Try.f13.results.toList R) =
(Call Try.prog 15 [Value.pointer p0_r, Value.int IntKind.i64 p1_cpu] w fun e w' =>
  ∃ n,
    e = Ending.returned (Value.int IntKind.i64 n) ∧
      ((n != (0 : Int)) = true → R (Ending.returned (Value.int IntKind.i64 0)) w') ∧
        ((n != (0 : Int)) = false →
          ∃ a,
            p0_r = some a ∧
              ∃ p n c,
                World.cell? w' (Addr.add a 0) = some (Value.slice p n c) ∧
                  ((0 : Int) ≤ p1_cpu ∧ p1_cpu < (↑n : Int)) ∧
                    ∃ a,
                      p = some a ∧
                        ∃ p,
                          World.cell? w' (Addr.add a (Int.toNat p1_cpu * 1)) = some (Value.pointer p) ∧
                            Call Try.prog 23 [Value.pointer p] w' fun e w' =>
                              ∃ n,
                                e = Ending.returned (Value.int IntKind.i64 n) ∧
                                  R (Ending.returned (Value.int IntKind.i64 n)) w')) := by kernel_rfl
/-! davit/prio.New -/
def M14 : Mt := { N := 31, keep := [(0, [0]), (1, [0, 4]), (2, [0, 4, 12]), (3, [0, 4, 12, 13]), (4, [0, 4, 5, 12]), (5, [0, 4, 5, 6, 7, 12]), (6, [0, 4, 5, 6, 7, 12, 21]), (7, [2, 3]), (8, [0, 4, 12]), (9, [0, 4, 12]), (10, [2, 3])], ords := [], bk := [(0, [4]), (1, [0, 4, 12])], cuts := [], lk := [(3, [0, 4, 12])] }
noncomputable def c14 : Code := bodyOf Try.f14
noncomputable def c14_0 : Code := c14.sr.sr.sr
noncomputable def c14_1 : Code := c14.sr.sr.sl.sr.sl.sl
def e14_1 (p0_most : Int) (p4_q : Option Addr) (p12_t : Int) : Env := [(0, SV.v (Value.int IntKind.i64 p0_most)), (4, SV.v (Value.pointer p4_q)), (12, SV.v (Value.int IntKind.i64 p12_t))]
def k14_1 (R : Ending → World → Prop) : Cont := blockK 0 [4] (seqK (fun E w => cutB (findL M14.cuts (headReg c14_0)) Try.prog M14 c14_0 E w (retK Try.prog Try.f14.results.toList R) fun E => den Try.prog M14 c14_0 E w (retK Try.prog Try.f14.results.toList R)) (retK Try.prog Try.f14.results.toList R))
theorem b14 : Try.f14.body = some c14 := by kernel_rfl
theorem n14 : Try.f14.ntmps = M14.N := by kernel_rfl
theorem u14 {p0_most : Int} {w : World} {R : Ending → World → Prop} (h : den Try.prog M14 c14 (argE 0 [(Value.int IntKind.i64 p0_most)]) w (retK Try.prog Try.f14.results.toList R)) : Calls Try.prog 14 #[(Value.int IntKind.i64 p0_most)] w R := calls_den okProg Try.func14 b14 n14 (Nat.le_of_ble_eq_true rfl) h
theorem t14 (p0_most : Int) (w : World) (R : Ending → World → Prop) : den Try.prog M14 c14 (argE 0 [(Value.int IntKind.i64 p0_most)]) w (retK Try.prog Try.f14.results.toList R) =
(NewMap w fun r w' =>
  New w'
    [Value.pointer none, Value.pointer none, Value.pointer none, Value.pointer none, Value.pointer none,
      Value.pointer none, Value.pointer none, Value.pointer none, Value.map (some r), Value.int IntKind.i64 p0_most]
    58 fun p w' =>
    Cut (WP Try.prog 31 (Code.loop c14_1) (e14_1 p0_most (some p) (0 : Int)) w' (k14_1 R))) := by kernel_rfl
theorem t14_1 (p0_most : Int) (p4_q : Option Addr) (p12_t : Int) (w : World) (B14_1 : Env → World → Prop) (R : Ending → World → Prop) : den Try.prog M14 c14_1 (e14_1 p0_most p4_q p12_t) w (loopK B14_1 (k14_1 R)) =
((decide (p12_t < (8 : Int)) = true →
    Call Try.prog 24 [Value.int IntKind.i64 p0_most] w fun e w' =>
      ∃ p n,
        e = Ending.returned (Value.tuple #[Value.pointer p, Value.int IntKind.i64 n]) ∧
          ((n != (0 : Int)) = true →
              R (Ending.returned (Value.tuple #[Value.pointer none, Value.int IntKind.i64 n])) w') ∧
            ((n != (0 : Int)) = false →
              ∃ a,
                p4_q = some a ∧
                  ((0 : Int) ≤ p12_t ∧ p12_t < (↑8 : Int)) ∧
                    Wr w' (Addr.add (Addr.add a 0) (Int.toNat p12_t * 1)) [Value.pointer p] fun w' =>
                      B14_1
                        [(0, SV.v (Value.int IntKind.i64 p0_most)), (4, SV.v (Value.pointer p4_q)),
                          (12, SV.v (Value.int IntKind.i64 (IntKind.wrap IntKind.i64 (p12_t + (1 : Int)))))]
                        w')) ∧
  (decide (p12_t < (8 : Int)) = false →
    R (Ending.returned (Value.tuple #[Value.pointer p4_q, Value.int IntKind.i64 0])) w)) := by kernel_rfl
/-! (*davit/runq.Runq).may -/
def M15 : Mt := { N := 20, keep := [(0, [0, 1]), (1, [0, 1, 5]), (2, [4]), (3, [8]), (4, [4]), (5, [4])], ords := [], bk := [(0, [])], cuts := [], lk := [] }
noncomputable def c15 : Code := bodyOf Try.f15
theorem b15 : Try.f15.body = some c15 := by kernel_rfl
theorem n15 : Try.f15.ntmps = M15.N := by kernel_rfl
theorem u15 {p0_r : Option Addr} {p1_cpu : Int} {w : World} {R : Ending → World → Prop} (h : den Try.prog M15 c15 (argE 0 [(Value.pointer p0_r), (Value.int IntKind.i64 p1_cpu)]) w (retK Try.prog Try.f15.results.toList R)) : Calls Try.prog 15 #[(Value.pointer p0_r), (Value.int IntKind.i64 p1_cpu)] w R := calls_den okProg Try.func15 b15 n15 (Nat.le_of_ble_eq_true rfl) h
theorem t15 (p0_r : Option Addr) (p1_cpu : Int) (w : World) (R : Ending → World → Prop) : den Try.prog M15 c15 (argE 0 [(Value.pointer p0_r), (Value.int IntKind.i64 p1_cpu)]) w (retK Try.prog Try.f15.results.toList R) =
((Option.isNone p0_r = true → R (Ending.returned (Value.int IntKind.i64 1)) w) ∧
  (Option.isNone p0_r = false →
    (decide (p1_cpu < (0 : Int)) = false →
        ∃ a,
          p0_r = some a ∧
            ∃ p n c,
              World.cell? w (Addr.add a 0) = some (Value.slice p n c) ∧
                (decide (p1_cpu ≥ (↑n : Int)) = true → R (Ending.returned (Value.int IntKind.i64 3)) w) ∧
                  (decide (p1_cpu ≥ (↑n : Int)) = false → R (Ending.returned (Value.int IntKind.i64 0)) w)) ∧
      (decide (p1_cpu < (0 : Int)) = true → R (Ending.returned (Value.int IntKind.i64 3)) w))) := by kernel_rfl
/-! (*davit/prio.Queue).Push -/
def M16 : Mt := { N := 54, keep := [(0, [0, 1, 2]), (1, [0, 1, 2, 10]), (2, [6]), (3, [0, 1, 2, 8]), (4, [0, 1, 2, 8, 20]), (5, [6]), (6, [0, 1, 2, 27]), (7, [6]), (8, [0, 1, 2, 29]), (9, [6]), (10, [0, 1, 2]), (11, [6])], ords := [(8, [0, 1, 2, 3, 4, 5, 6, 7, 8, 9, 10])], bk := [(0, [0, 1, 2])], cuts := [], lk := [] }
noncomputable def c16 : Code := bodyOf Try.f16
theorem b16 : Try.f16.body = some c16 := by kernel_rfl
theorem n16 : Try.f16.ntmps = M16.N := by kernel_rfl
theorem u16 {p0_q : Option Addr} {p1_prio : Int} {p2_id : Int} {w : World} {R : Ending → World → Prop} (h : den Try.prog M16 c16 (argE 0 [(Value.pointer p0_q), (Value.int IntKind.i64 p1_prio), (Value.int IntKind.i64 p2_id)]) w (retK Try.prog Try.f16.results.toList R)) : Calls Try.prog 16 #[(Value.pointer p0_q), (Value.int IntKind.i64 p1_prio), (Value.int IntKind.i64 p2_id)] w R := calls_den okProg Try.func16 b16 n16 (Nat.le_of_ble_eq_true rfl) h
theorem t16 (p0_q : Option Addr) (p1_prio : Int) (p2_id : Int) (w : World) (R : Ending → World → Prop) : den Try.prog M16 c16 (argE 0 [(Value.pointer p0_q), (Value.int IntKind.i64 p1_prio), (Value.int IntKind.i64 p2_id)]) w (retK Try.prog Try.f16.results.toList R) =
((Option.isNone p0_q = true → R (Ending.returned (Value.int IntKind.i64 1)) w) ∧
  (Option.isNone p0_q = false →
    ∃ a,
      p0_q = some a ∧
        ∃ r,
          World.cell? w (Addr.add a 8) = some (Value.map r) ∧
            ∃ n b,
              Sem.run Try.prog (Instr.lookup 42 (Value.map r) (Value.int IntKind.i64 p2_id) true) w =
                  Result.ok (Value.tuple #[Value.int IntKind.i64 n, Value.bool b]) w ∧
                (decide (p1_prio < (0 : Int)) = false →
                    (decide (p1_prio ≥ (8 : Int)) = true → R (Ending.returned (Value.int IntKind.i64 2)) w) ∧
                      (decide (p1_prio ≥ (8 : Int)) = false →
                        (b = true → R (Ending.returned (Value.int IntKind.i64 6)) w) ∧
                          (b = false →
                            ∀ (w' : World),
                              World.heap w' = World.heap w →
                                World.os w' = World.os w →
                                  World.tape w' = World.tape w →
                                    World.output w' = World.output w →
                                      ∃ a,
                                        p0_q = some a ∧
                                          ∃ r,
                                            World.cell? w' (Addr.add a 8) = some (Value.map r) ∧
                                              ∃ (n : Nat),
                                                (∀ (ty : TypeId),
                                                    Sem.run Try.prog (Builtin.len_ #[42] ty #[Value.map r]) w' =
                                                      Result.ok (Value.int IntKind.i64 (↑n : Int)) w') ∧
                                                  ∃ a,
                                                    p0_q = some a ∧
                                                      ∃ n_1,
                                                        World.cell? w' (Addr.add a 9) =
                                                            some (Value.int IntKind.i64 n_1) ∧
                                                          (decide ((↑n : Int) ≥ n_1) = true →
                                                              R (Ending.returned (Value.int IntKind.i64 5))
                                                                w') ∧
                                                            (decide ((↑n : Int) ≥ n_1) = false →
                                                              ∃ a,
                                                                p0_q = some a ∧
                                                                  ∃ r,
                                                                    World.cell? w' (Addr.add a 8) =
                                                                        some (Value.map r) ∧
                                                                      ∃ w'_1,
                                                                        Sem.run Try.prog
                                                                              (Instr.mapUpdate 42 (Value.map r)
                                                                                (Value.int IntKind.i64 p2_id)
                                                                                (Value.int IntKind.i64 p1_prio))
                                                                              w' =
                                                                            Result.ok () w'_1 ∧
                                                                          ∃ a,
                                                                            p0_q = some a ∧
                                                                              ((0 : Int) ≤ p1_prio ∧
                                                                                  p1_prio < (↑8 : Int)) ∧
                                                                                ∃ p,
                                                                                  World.cell? w'_1
                                                                                        (Addr.add (Addr.add a 0)
                                                                                          (Int.toNat p1_prio *
                                                                                            1)) =
                                                                                      some (Value.pointer p) ∧
                                                                                    Call Try.prog 25
                                                                                      [Value.pointer p,
                                                                                        Value.int IntKind.i64 p2_id]
                                                                                      w'_1 fun e w' =>
                                                                                      ∃ n,
                                                                                        e =
                                                                                            Ending.returned
                                                                                              (Value.int IntKind.i64
                                                                                                n) ∧
                                                                                          R
                                                                                            (Ending.returned
                                                                                              (Value.int IntKind.i64 n))
                                                                                            w')))) ∧
                  (decide (p1_prio < (0 : Int)) = true → R (Ending.returned (Value.int IntKind.i64 2)) w))) := by kernel_rfl
/-! (*davit/runq.Runq).Where -/
def M18 : Mt := { N := 21, keep := [(0, [0, 1]), (1, [0, 1, 9]), (2, [4, 5]), (3, [6, 7]), (4, [4, 5])], ords := [], bk := [], cuts := [], lk := [] }
noncomputable def c18 : Code := bodyOf Try.f18
theorem b18 : Try.f18.body = some c18 := by kernel_rfl
theorem n18 : Try.f18.ntmps = M18.N := by kernel_rfl
theorem u18 {p0_r : Option Addr} {p1_id : Int} {w : World} {R : Ending → World → Prop} (h : den Try.prog M18 c18 (argE 0 [(Value.pointer p0_r), (Value.int IntKind.i64 p1_id)]) w (retK Try.prog Try.f18.results.toList R)) : Calls Try.prog 18 #[(Value.pointer p0_r), (Value.int IntKind.i64 p1_id)] w R := calls_den okProg Try.func18 b18 n18 (Nat.le_of_ble_eq_true rfl) h
theorem t18 (p0_r : Option Addr) (p1_id : Int) (w : World) (R : Ending → World → Prop) : den Try.prog M18 c18 (argE 0 [(Value.pointer p0_r), (Value.int IntKind.i64 p1_id)]) w (retK Try.prog Try.f18.results.toList R) =
((Option.isNone p0_r = true →
    R (Ending.returned (Value.tuple #[Value.int IntKind.i64 0, Value.bool false])) w) ∧
  (Option.isNone p0_r = false →
    ∃ a,
      p0_r = some a ∧
        ∃ r,
          World.cell? w (Addr.add a 1) = some (Value.map r) ∧
            ∃ n b,
              Sem.run Try.prog (Instr.lookup 42 (Value.map r) (Value.int IntKind.i64 p1_id) true) w =
                  Result.ok (Value.tuple #[Value.int IntKind.i64 n, Value.bool b]) w ∧
                R (Ending.returned (Value.tuple #[Value.int IntKind.i64 n, Value.bool b])) w)) := by kernel_rfl
/-! (*davit/prio.Queue).Prio -/
def M19 : Mt := { N := 21, keep := [(0, [0, 1]), (1, [0, 1, 9]), (2, [4, 5]), (3, [6, 7]), (4, [4, 5])], ords := [], bk := [], cuts := [], lk := [] }
noncomputable def c19 : Code := bodyOf Try.f19
theorem b19 : Try.f19.body = some c19 := by kernel_rfl
theorem n19 : Try.f19.ntmps = M19.N := by kernel_rfl
theorem u19 {p0_q : Option Addr} {p1_id : Int} {w : World} {R : Ending → World → Prop} (h : den Try.prog M19 c19 (argE 0 [(Value.pointer p0_q), (Value.int IntKind.i64 p1_id)]) w (retK Try.prog Try.f19.results.toList R)) : Calls Try.prog 19 #[(Value.pointer p0_q), (Value.int IntKind.i64 p1_id)] w R := calls_den okProg Try.func19 b19 n19 (Nat.le_of_ble_eq_true rfl) h
theorem t19 (p0_q : Option Addr) (p1_id : Int) (w : World) (R : Ending → World → Prop) : den Try.prog M19 c19 (argE 0 [(Value.pointer p0_q), (Value.int IntKind.i64 p1_id)]) w (retK Try.prog Try.f19.results.toList R) =
((Option.isNone p0_q = true →
    R (Ending.returned (Value.tuple #[Value.int IntKind.i64 0, Value.bool false])) w) ∧
  (Option.isNone p0_q = false →
    ∃ a,
      p0_q = some a ∧
        ∃ r,
          World.cell? w (Addr.add a 8) = some (Value.map r) ∧
            ∃ n b,
              Sem.run Try.prog (Instr.lookup 42 (Value.map r) (Value.int IntKind.i64 p1_id) true) w =
                  Result.ok (Value.tuple #[Value.int IntKind.i64 n, Value.bool b]) w ∧
                R (Ending.returned (Value.tuple #[Value.int IntKind.i64 n, Value.bool b])) w)) := by kernel_rfl
/-! (*davit/prio.Queue).Top -/
def M20 : Mt := { N := 18, keep := [(0, [0]), (1, [4, 5]), (2, [4, 5, 12]), (3, [2, 3]), (4, [2, 3])], ords := [], bk := [], cuts := [], lk := [] }
noncomputable def c20 : Code := bodyOf Try.f20
theorem b20 : Try.f20.body = some c20 := by kernel_rfl
theorem n20 : Try.f20.ntmps = M20.N := by kernel_rfl
theorem u20 {p0_q : Option Addr} {w : World} {R : Ending → World → Prop} (h : den Try.prog M20 c20 (argE 0 [(Value.pointer p0_q)]) w (retK Try.prog Try.f20.results.toList R)) : Calls Try.prog 20 #[(Value.pointer p0_q)] w R := calls_den okProg Try.func20 b20 n20 (Nat.le_of_ble_eq_true rfl) h
theorem t20 (p0_q : Option Addr) (w : World) (R : Ending → World → Prop) : den Try.prog M20 c20 (argE 0 [(Value.pointer p0_q)]) w (retK Try.prog Try.f20.results.toList R) =
(Call Try.prog 28 [Value.pointer p0_q] w fun e w' =>
  ∃ p n,
    e = Ending.returned (Value.tuple #[Value.pointer p, Value.int IntKind.i64 n]) ∧
      ((n != (0 : Int)) = true →
          R (Ending.returned (Value.tuple #[Value.int IntKind.i64 0, Value.int IntKind.i64 n])) w') ∧
        ((n != (0 : Int)) = false →
          Call Try.prog 29 [Value.pointer p] w' fun e w' =>
            ∃ n n_1,
              e = Ending.returned (Value.tuple #[Value.int IntKind.i64 n, Value.int IntKind.i64 n_1]) ∧
                R (Ending.returned (Value.tuple #[Value.int IntKind.i64 n, Value.int IntKind.i64 n_1])) w')) := by kernel_rfl
/-! (*davit/prio.Queue).Turn -/
def M21 : Mt := { N := 15, keep := [(0, [0]), (1, [3, 4]), (2, [3, 4, 11]), (3, [2]), (4, [2])], ords := [], bk := [], cuts := [], lk := [] }
noncomputable def c21 : Code := bodyOf Try.f21
theorem b21 : Try.f21.body = some c21 := by kernel_rfl
theorem n21 : Try.f21.ntmps = M21.N := by kernel_rfl
theorem u21 {p0_q : Option Addr} {w : World} {R : Ending → World → Prop} (h : den Try.prog M21 c21 (argE 0 [(Value.pointer p0_q)]) w (retK Try.prog Try.f21.results.toList R)) : Calls Try.prog 21 #[(Value.pointer p0_q)] w R := calls_den okProg Try.func21 b21 n21 (Nat.le_of_ble_eq_true rfl) h
theorem t21 (p0_q : Option Addr) (w : World) (R : Ending → World → Prop) : den Try.prog M21 c21 (argE 0 [(Value.pointer p0_q)]) w (retK Try.prog Try.f21.results.toList R) =
(Call Try.prog 28 [Value.pointer p0_q] w fun e w' =>
  ∃ p n,
    e = Ending.returned (Value.tuple #[Value.pointer p, Value.int IntKind.i64 n]) ∧
      ((n != (0 : Int)) = true → R (Ending.returned (Value.int IntKind.i64 n)) w') ∧
        ((n != (0 : Int)) = false →
          Call Try.prog 30 [Value.pointer p] w' fun e w' =>
            ∃ n, e = Ending.returned (Value.int IntKind.i64 n) ∧ R (Ending.returned (Value.int IntKind.i64 n)) w')) := by kernel_rfl
/-! (*davit/prio.Queue).Drop -/
def M22 : Mt := { N := 33, keep := [(0, [0, 1]), (1, [0, 1, 8]), (2, [4]), (3, [0, 1, 5, 6]), (4, [0, 1, 5, 19]), (5, [4]), (6, [0, 1, 5]), (7, [4])], ords := [], bk := [], cuts := [], lk := [] }
noncomputable def c22 : Code := bodyOf Try.f22
theorem b22 : Try.f22.body = some c22 := by kernel_rfl
theorem n22 : Try.f22.ntmps = M22.N := by kernel_rfl
theorem u22 {p0_q : Option Addr} {p1_id : Int} {w : World} {R : Ending → World → Prop} (h : den Try.prog M22 c22 (argE 0 [(Value.pointer p0_q), (Value.int IntKind.i64 p1_id)]) w (retK Try.prog Try.f22.results.toList R)) : Calls Try.prog 22 #[(Value.pointer p0_q), (Value.int IntKind.i64 p1_id)] w R := calls_den okProg Try.func22 b22 n22 (Nat.le_of_ble_eq_true rfl) h
theorem t22 (p0_q : Option Addr) (p1_id : Int) (w : World) (R : Ending → World → Prop) : den Try.prog M22 c22 (argE 0 [(Value.pointer p0_q), (Value.int IntKind.i64 p1_id)]) w (retK Try.prog Try.f22.results.toList R) =
((Option.isNone p0_q = true → R (Ending.returned (Value.int IntKind.i64 1)) w) ∧
  (Option.isNone p0_q = false →
    ∃ a,
      p0_q = some a ∧
        ∃ r,
          World.cell? w (Addr.add a 8) = some (Value.map r) ∧
            ∃ n b,
              Sem.run Try.prog (Instr.lookup 42 (Value.map r) (Value.int IntKind.i64 p1_id) true) w =
                  Result.ok (Value.tuple #[Value.int IntKind.i64 n, Value.bool b]) w ∧
                ((!b) = true → R (Ending.returned (Value.int IntKind.i64 4)) w) ∧
                  ((!b) = false →
                    ∃ a,
                      p0_q = some a ∧
                        ∃ r,
                          World.cell? w (Addr.add a 8) = some (Value.map r) ∧
                            ∃ w',
                              Sem.run Try.prog
                                    (Builtin.delete_ #[42, 3] 0
                                      #[Value.map r, Value.int IntKind.i64 p1_id])
                                    w =
                                  Result.ok (Value.tuple #[]) w' ∧
                                ∃ a,
                                  p0_q = some a ∧
                                    ((0 : Int) ≤ n ∧ n < (↑8 : Int)) ∧
                                      ∃ p,
                                        World.cell? w' (Addr.add (Addr.add a 0) (Int.toNat n * 1)) =
                                            some (Value.pointer p) ∧
                                          Call Try.prog 31 [Value.pointer p, Value.int IntKind.i64 p1_id] w'
                                            fun e w' =>
                                            ∃ n,
                                              e = Ending.returned (Value.int IntKind.i64 n) ∧
                                                R (Ending.returned (Value.int IntKind.i64 n)) w'))) := by kernel_rfl
/-! (*davit/prio.Queue).Len -/
def M23 : Mt := { N := 10, keep := [(0, [0]), (1, [0, 4]), (2, [2]), (3, [2])], ords := [], bk := [], cuts := [], lk := [] }
noncomputable def c23 : Code := bodyOf Try.f23
theorem b23 : Try.f23.body = some c23 := by kernel_rfl
theorem n23 : Try.f23.ntmps = M23.N := by kernel_rfl
theorem u23 {p0_q : Option Addr} {w : World} {R : Ending → World → Prop} (h : den Try.prog M23 c23 (argE 0 [(Value.pointer p0_q)]) w (retK Try.prog Try.f23.results.toList R)) : Calls Try.prog 23 #[(Value.pointer p0_q)] w R := calls_den okProg Try.func23 b23 n23 (Nat.le_of_ble_eq_true rfl) h
theorem t23 (p0_q : Option Addr) (w : World) (R : Ending → World → Prop) : den Try.prog M23 c23 (argE 0 [(Value.pointer p0_q)]) w (retK Try.prog Try.f23.results.toList R) =
((Option.isNone p0_q = true → R (Ending.returned (Value.int IntKind.i64 0)) w) ∧
  (Option.isNone p0_q = false →
    ∃ a,
      p0_q = some a ∧
        ∃ r,
          World.cell? w (Addr.add a 8) = some (Value.map r) ∧
            ∃ (n : Nat),
              (∀ (ty : TypeId),
                  Sem.run Try.prog (Builtin.len_ #[42] ty #[Value.map r]) w =
                    Result.ok (Value.int IntKind.i64 (↑n : Int)) w) ∧
                R (Ending.returned (Value.int IntKind.i64 (↑n : Int))) w)) := by kernel_rfl
/-! davit/fifo.New -/
def M24 : Mt := { N := 14, keep := [(0, [0]), (1, [0, 9]), (2, [2, 3]), (3, [2, 3])], ords := [], bk := [], cuts := [], lk := [] }
noncomputable def c24 : Code := bodyOf Try.f24
theorem b24 : Try.f24.body = some c24 := by kernel_rfl
theorem n24 : Try.f24.ntmps = M24.N := by kernel_rfl
theorem u24 {p0_most : Int} {w : World} {R : Ending → World → Prop} (h : den Try.prog M24 c24 (argE 0 [(Value.int IntKind.i64 p0_most)]) w (retK Try.prog Try.f24.results.toList R)) : Calls Try.prog 24 #[(Value.int IntKind.i64 p0_most)] w R := calls_den okProg Try.func24 b24 n24 (Nat.le_of_ble_eq_true rfl) h
theorem t24 (p0_most : Int) (w : World) (R : Ending → World → Prop) : den Try.prog M24 c24 (argE 0 [(Value.int IntKind.i64 p0_most)]) w (retK Try.prog Try.f24.results.toList R) =
((decide (p0_most < (1 : Int)) = false →
    (decide (p0_most > (1024 : Int)) = true →
        R (Ending.returned (Value.tuple #[Value.pointer none, Value.int IntKind.i64 2])) w) ∧
      (decide (p0_most > (1024 : Int)) = false →
        ∃ p n c w',
          Sem.run Try.prog
                (Instr.makeSlice 30 (Value.int IntKind.i64 p0_most) (Value.int IntKind.i64 p0_most)) w =
              Result.ok (Value.slice p n c) w' ∧
            New w' [Value.slice p n c, Value.int IntKind.i64 0, Value.int IntKind.i64 0] 66
              fun p w' =>
              R (Ending.returned (Value.tuple #[Value.pointer (some p), Value.int IntKind.i64 0])) w')) ∧
  (decide (p0_most < (1 : Int)) = true →
    R (Ending.returned (Value.tuple #[Value.pointer none, Value.int IntKind.i64 2])) w)) := by kernel_rfl
/-! (*davit/fifo.Queue).Push -/
def M25 : Mt := { N := 42, keep := [(0, [0, 1]), (1, [0, 1, 5]), (2, [4]), (3, [0, 1, 8]), (4, [4]), (5, [0, 1, 12]), (6, [4]), (7, [0]), (8, []), (9, [4])], ords := [(5, [0, 1, 2, 3, 4, 5, 6, 7, 8, 9, 10]), (7, [0, 1, 2, 3, 4, 5, 6, 7, 8, 10, 9, 11, 12])], bk := [(0, [0, 1])], cuts := [], lk := [] }
noncomputable def c25 : Code := bodyOf Try.f25
theorem b25 : Try.f25.body = some c25 := by kernel_rfl
theorem n25 : Try.f25.ntmps = M25.N := by kernel_rfl
theorem u25 {p0_q : Option Addr} {p1_n : Int} {w : World} {R : Ending → World → Prop} (h : den Try.prog M25 c25 (argE 0 [(Value.pointer p0_q), (Value.int IntKind.i64 p1_n)]) w (retK Try.prog Try.f25.results.toList R)) : Calls Try.prog 25 #[(Value.pointer p0_q), (Value.int IntKind.i64 p1_n)] w R := calls_den okProg Try.func25 b25 n25 (Nat.le_of_ble_eq_true rfl) h
theorem t25 (p0_q : Option Addr) (p1_n : Int) (w : World) (R : Ending → World → Prop) : den Try.prog M25 c25 (argE 0 [(Value.pointer p0_q), (Value.int IntKind.i64 p1_n)]) w (retK Try.prog Try.f25.results.toList R) =
((Option.isNone p0_q = true → R (Ending.returned (Value.int IntKind.i64 1)) w) ∧
  (Option.isNone p0_q = false →
    Call Try.prog 32 [Value.pointer p0_q, Value.int IntKind.i64 p1_n] w fun e w' =>
      ∃ b,
        e = Ending.returned (Value.bool b) ∧
          (b = true → R (Ending.returned (Value.int IntKind.i64 6)) w') ∧
            (b = false →
              ∀ (w'_1 : World),
                World.heap w'_1 = World.heap w' →
                  World.os w'_1 = World.os w' →
                    World.tape w'_1 = World.tape w' →
                      World.output w'_1 = World.output w' →
                        ∃ a,
                          p0_q = some a ∧
                            ∃ n,
                              World.cell? w'_1 (Addr.add a 2) = some (Value.int IntKind.i64 n) ∧
                                ∃ a,
                                  p0_q = some a ∧
                                    ∃ p n_1 c,
                                      World.cell? w'_1 (Addr.add a 0) = some (Value.slice p n_1 c) ∧
                                        ((n == (↑n_1 : Int)) = true →
                                            R (Ending.returned (Value.int IntKind.i64 5)) w'_1) ∧
                                          ((n == (↑n_1 : Int)) = false →
                                            ∀ (w' : World),
                                              World.heap w' = World.heap w'_1 →
                                                World.os w' = World.os w'_1 →
                                                  World.tape w' = World.tape w'_1 →
                                                    World.output w' = World.output w'_1 →
                                                      ∃ a,
                                                        p0_q = some a ∧
                                                          ∃ p n c,
                                                            World.cell? w' (Addr.add a 0) =
                                                                some (Value.slice p n c) ∧
                                                              ∃ a_1,
                                                                p0_q = some a_1 ∧
                                                                  ∃ n_2,
                                                                    World.cell? w' (Addr.add a_1 2) =
                                                                        some (Value.int IntKind.i64 n_2) ∧
                                                                      Call Try.prog 33
                                                                        [Value.pointer p0_q, Value.int IntKind.i64 n_2]
                                                                        w' fun e w' =>
                                                                        ∃ n_3,
                                                                          e =
                                                                              Ending.returned
                                                                                (Value.int IntKind.i64 n_3) ∧
                                                                            World.cell? w' (Addr.add a 0) =
                                                                                some (Value.slice p n c) ∧
                                                                              ((0 : Int) ≤ n_3 ∧ n_3 < (↑n : Int)) ∧
                                                                                ∃ a,
                                                                                  p = some a ∧
                                                                                    Wr w'
                                                                                      (Addr.add a
                                                                                        (Int.toNat n_3 * 1))
                                                                                      [Value.int IntKind.i64 p1_n]
                                                                                      fun w' =>
                                                                                      ∃ a,
                                                                                        p0_q = some a ∧
                                                                                          ∃ n,
                                                                                            World.cell? w'
                                                                                                  (Addr.add a
                                                                                                    2) =
                                                                                                some
                                                                                                  (Value.int IntKind.i64
                                                                                                    n) ∧
                                                                                              ∃ a,
                                                                                                p0_q = some a ∧
                                                                                                  Wr w'
                                                                                                    (Addr.add a
                                                                                                      2)
                                                                                                    [Value.int
                                                                                                        IntKind.i64
                                                                                                        (IntKind.wrap
                                                                                                          IntKind.i64
                                                                                                          (n +
                                                                                                            (1 : Int)))]
                                                                                                    fun w' =>
                                                                                                    R
                                                                                                      (Ending.returned
                                                                                                        (Value.int
                                                                                                          IntKind.i64
                                                                                                          (0 : Int)))
                                                                                                      w')))) := by kernel_rfl
/-! (*davit/prio.Queue).down -/
def M26 : Mt := { N := 4, keep := [(0, [1]), (1, [2])], ords := [], bk := [], cuts := [], lk := [] }
noncomputable def c26 : Code := bodyOf Try.f26
theorem b26 : Try.f26.body = some c26 := by kernel_rfl
theorem n26 : Try.f26.ntmps = M26.N := by kernel_rfl
theorem u26 {p0_q : Option Addr} {w : World} {R : Ending → World → Prop} (h : den Try.prog M26 c26 (argE 0 [(Value.pointer p0_q)]) w (retK Try.prog Try.f26.results.toList R)) : Calls Try.prog 26 #[(Value.pointer p0_q)] w R := calls_den okProg Try.func26 b26 n26 (Nat.le_of_ble_eq_true rfl) h
theorem t26 (p0_q : Option Addr) (w : World) (R : Ending → World → Prop) : den Try.prog M26 c26 (argE 0 [(Value.pointer p0_q)]) w (retK Try.prog Try.f26.results.toList R) =
(New w [Value.pointer p0_q] 46 fun p w' =>
  R (Ending.returned (Value.func (Fn.func 34) #[] #[Value.pointer (some p)])) w') := by kernel_rfl
/-! (*davit/fifo.Queue).List -/
def M27 : Mt := { N := 39, keep := [(0, [0]), (1, [0, 13]), (2, [2]), (3, [0, 3]), (4, [0, 3, 4]), (5, [3]), (6, [2])], ords := [(4, [0, 1, 2, 3, 4, 5, 6, 7, 8, 9, 10, 11]), (5, [0, 1, 2, 3, 4, 5, 6, 7])], bk := [], cuts := [], lk := [] }
noncomputable def c27 : Code := bodyOf Try.f27
theorem b27 : Try.f27.body = some c27 := by kernel_rfl
theorem n27 : Try.f27.ntmps = M27.N := by kernel_rfl
theorem u27 {p0_q : Option Addr} {w : World} {R : Ending → World → Prop} (h : den Try.prog M27 c27 (argE 0 [(Value.pointer p0_q)]) w (retK Try.prog Try.f27.results.toList R)) : Calls Try.prog 27 #[(Value.pointer p0_q)] w R := calls_den okProg Try.func27 b27 n27 (Nat.le_of_ble_eq_true rfl) h
theorem t27 (p0_q : Option Addr) (w : World) (R : Ending → World → Prop) : den Try.prog M27 c27 (argE 0 [(Value.pointer p0_q)]) w (retK Try.prog Try.f27.results.toList R) =
((Option.isNone p0_q = false →
    ∃ a,
      p0_q = some a ∧
        ∃ n,
          World.cell? w (Addr.add a 2) = some (Value.int IntKind.i64 n) ∧
            ((n == (0 : Int)) = true → R (Ending.returned (Value.slice none 0 0)) w) ∧
              ((n == (0 : Int)) = false →
                ∃ a,
                  p0_q = some a ∧
                    ∃ n,
                      World.cell? w (Addr.add a 2) = some (Value.int IntKind.i64 n) ∧
                        ∃ p n_1 c w',
                          Sem.run Try.prog
                                (Instr.makeSlice 30 (Value.int IntKind.i64 n) (Value.int IntKind.i64 n)) w =
                              Result.ok (Value.slice p n_1 c) w' ∧
                            ∀ (w'_1 : World),
                              World.heap w'_1 = World.heap w' →
                                World.os w'_1 = World.os w' →
                                  World.tape w'_1 = World.tape w' →
                                    World.output w'_1 = World.output w' →
                                      ∃ a,
                                        p0_q = some a ∧
                                          ∃ p_1 n c_1,
                                            World.cell? w'_1 (Addr.add a 0) = some (Value.slice p_1 n c_1) ∧
                                              ∃ a,
                                                p0_q = some a ∧
                                                  ∃ n_2,
                                                    World.cell? w'_1 (Addr.add a 1) =
                                                        some (Value.int IntKind.i64 n_2) ∧
                                                      ((0 : Int) ≤ n_2 ∧ n_2 ≤ (↑n : Int)) ∧
                                                        ∃ n_3 w',
                                                          Sem.run Try.prog
                                                                (Builtin.copy_ #[30, 30] 3
                                                                  #[Value.slice p n_1 c,
                                                                    Value.slice (subA p_1 c_1 (Int.toNat n_2) 1)
                                                                      (n - Int.toNat n_2) (c_1 - Int.toNat n_2)])
                                                                w'_1 =
                                                              Result.ok (Value.int IntKind.i64 n_3) w' ∧
                                                            ∀ (w'_2 : World),
                                                              World.heap w'_2 = World.heap w' →
                                                                World.os w'_2 = World.os w' →
                                                                  World.tape w'_2 = World.tape w' →
                                                                    World.output w'_2 = World.output w' →
                                                                      ((0 : Int) ≤ n_3 ∧ n_3 ≤ (↑n_1 : Int)) ∧
                                                                        ∃ a,
                                                                          p0_q = some a ∧
                                                                            ∃ p_2 n c_2,
                                                                              World.cell? w'_2 (Addr.add a 0) =
                                                                                  some (Value.slice p_2 n c_2) ∧
                                                                                ∃ n_4 w',
                                                                                  Sem.run Try.prog
                                                                                        (Builtin.copy_
                                                                                          #[30, 30]
                                                                                          3
                                                                                          #[Value.slice
                                                                                              (subA p c (Int.toNat n_3)
                                                                                                1)
                                                                                              (n_1 - Int.toNat n_3)
                                                                                              (c - Int.toNat n_3),
                                                                                            Value.slice p_2 n c_2])
                                                                                        w'_2 =
                                                                                      Result.ok
                                                                                        (Value.int IntKind.i64 n_4) w' ∧
                                                                                    R
                                                                                      (Ending.returned
                                                                                        (Value.slice p n_1 c))
                                                                                      w')) ∧
  (Option.isNone p0_q = true → R (Ending.returned (Value.slice none 0 0)) w)) := by kernel_rfl
/-! (*davit/fifo.Queue).Front -/
def M29 : Mt := { N := 23, keep := [(0, [0]), (1, [0, 4]), (2, [2, 3]), (3, [0, 7]), (4, [2, 3]), (5, [2, 3])], ords := [(5, [0, 1, 2, 3, 4, 5, 6, 7, 8, 9, 10, 11])], bk := [(0, [0])], cuts := [], lk := [] }
noncomputable def c29 : Code := bodyOf Try.f29
theorem b29 : Try.f29.body = some c29 := by kernel_rfl
theorem n29 : Try.f29.ntmps = M29.N := by kernel_rfl
theorem u29 {p0_q : Option Addr} {w : World} {R : Ending → World → Prop} (h : den Try.prog M29 c29 (argE 0 [(Value.pointer p0_q)]) w (retK Try.prog Try.f29.results.toList R)) : Calls Try.prog 29 #[(Value.pointer p0_q)] w R := calls_den okProg Try.func29 b29 n29 (Nat.le_of_ble_eq_true rfl) h
theorem t29 (p0_q : Option Addr) (w : World) (R : Ending → World → Prop) : den Try.prog M29 c29 (argE 0 [(Value.pointer p0_q)]) w (retK Try.prog Try.f29.results.toList R) =
((Option.isNone p0_q = true →
    R (Ending.returned (Value.tuple #[Value.int IntKind.i64 0, Value.int IntKind.i64 1])) w) ∧
  (Option.isNone p0_q = false →
    ∃ a,
      p0_q = some a ∧
        ∃ n,
          World.cell? w (Addr.add a 2) = some (Value.int IntKind.i64 n) ∧
            ((n == (0 : Int)) = true →
                R (Ending.returned (Value.tuple #[Value.int IntKind.i64 0, Value.int IntKind.i64 12]))
                  w) ∧
              ((n == (0 : Int)) = false →
                ∀ (w' : World),
                  World.heap w' = World.heap w →
                    World.os w' = World.os w →
                      World.tape w' = World.tape w →
                        World.output w' = World.output w →
                          ∃ a,
                            p0_q = some a ∧
                              ∃ p n c,
                                World.cell? w' (Addr.add a 0) = some (Value.slice p n c) ∧
                                  ∃ a,
                                    p0_q = some a ∧
                                      ∃ n_1,
                                        World.cell? w' (Addr.add a 1) = some (Value.int IntKind.i64 n_1) ∧
                                          ((0 : Int) ≤ n_1 ∧ n_1 < (↑n : Int)) ∧
                                            ∃ a,
                                              p = some a ∧
                                                ∃ n,
                                                  World.cell? w' (Addr.add a (Int.toNat n_1 * 1)) =
                                                      some (Value.int IntKind.i64 n) ∧
                                                    R
                                                      (Ending.returned
                                                        (Value.tuple
                                                          #[Value.int IntKind.i64 n, Value.int IntKind.i64 0]))
                                                      w'))) := by kernel_rfl
/-! (*davit/fifo.Queue).Turn -/
def M30 : Mt := { N := 16, keep := [(0, [0]), (1, [0, 3, 4]), (2, [0, 3, 4, 11]), (3, [2]), (4, [2])], ords := [], bk := [], cuts := [], lk := [] }
noncomputable def c30 : Code := bodyOf Try.f30
theorem b30 : Try.f30.body = some c30 := by kernel_rfl
theorem n30 : Try.f30.ntmps = M30.N := by kernel_rfl
theorem u30 {p0_q : Option Addr} {w : World} {R : Ending → World → Prop} (h : den Try.prog M30 c30 (argE 0 [(Value.pointer p0_q)]) w (retK Try.prog Try.f30.results.toList R)) : Calls Try.prog 30 #[(Value.pointer p0_q)] w R := calls_den okProg Try.func30 b30 n30 (Nat.le_of_ble_eq_true rfl) h
theorem t30 (p0_q : Option Addr) (w : World) (R : Ending → World → Prop) : den Try.prog M30 c30 (argE 0 [(Value.pointer p0_q)]) w (retK Try.prog Try.f30.results.toList R) =
(Call Try.prog 36 [Value.pointer p0_q] w fun e w' =>
  ∃ n n_1,
    e = Ending.returned (Value.tuple #[Value.int IntKind.i64 n, Value.int IntKind.i64 n_1]) ∧
      ((n_1 != (0 : Int)) = true → R (Ending.returned (Value.int IntKind.i64 n_1)) w') ∧
        ((n_1 != (0 : Int)) = false →
          Call Try.prog 25 [Value.pointer p0_q, Value.int IntKind.i64 n] w' fun e w' =>
            ∃ n, e = Ending.returned (Value.int IntKind.i64 n) ∧ R (Ending.returned (Value.int IntKind.i64 n)) w')) := by kernel_rfl
/-! (*davit/fifo.Queue).Drop -/
def M31 : Mt := { N := 45, keep := [(0, [0, 1]), (1, [0, 1, 9]), (2, [4]), (3, [0, 1, 5]), (4, [0, 5, 6]), (5, [0, 5, 6, 16]), (6, [4]), (7, [0, 5, 7]), (8, [0, 5, 7, 22]), (9, [0, 5, 7]), (10, [0, 5, 7]), (11, []), (12, [4])], ords := [(10, [0, 1, 2, 3, 4, 5, 7, 8, 9, 10, 11, 6, 12, 13])], bk := [(0, [0]), (1, [0, 5, 7])], cuts := [], lk := [(8, [0, 5, 7])] }
noncomputable def c31 : Code := bodyOf Try.f31
noncomputable def c31_0 : Code := c31.sr.sr.sr.sr.sr.sr
noncomputable def c31_1 : Code := c31.sr.sr.sr.sr.sr.sl.sr.sl.sl
def e31_1 (p0_q : Option Addr) (p5_l_a : Option Addr) (p5_l_n : Nat) (p5_l_c : Nat) (p7_i : Int) : Env := [(0, SV.v (Value.pointer p0_q)), (5, SV.v (Value.slice p5_l_a p5_l_n p5_l_c)), (7, SV.v (Value.int IntKind.i64 p7_i))]
def k31_1 (R : Ending → World → Prop) : Cont := blockK 0 [0] (seqK (fun E w => cutB (findL M31.cuts (headReg c31_0)) Try.prog M31 c31_0 E w (retK Try.prog Try.f31.results.toList R) fun E => den Try.prog M31 c31_0 E w (retK Try.prog Try.f31.results.toList R)) (retK Try.prog Try.f31.results.toList R))
theorem b31 : Try.f31.body = some c31 := by kernel_rfl
theorem n31 : Try.f31.ntmps = M31.N := by kernel_rfl
theorem u31 {p0_q : Option Addr} {p1_n : Int} {w : World} {R : Ending → World → Prop} (h : den Try.prog M31 c31 (argE 0 [(Value.pointer p0_q), (Value.int IntKind.i64 p1_n)]) w (retK Try.prog Try.f31.results.toList R)) : Calls Try.prog 31 #[(Value.pointer p0_q), (Value.int IntKind.i64 p1_n)] w R := calls_den okProg Try.func31 b31 n31 (Nat.le_of_ble_eq_true rfl) h
theorem t31 (p0_q : Option Addr) (p1_n : Int) (w : World) (R : Ending → World → Prop) : den Try.prog M31 c31 (argE 0 [(Value.pointer p0_q), (Value.int IntKind.i64 p1_n)]) w (retK Try.prog Try.f31.results.toList R) =
((Option.isNone p0_q = true → R (Ending.returned (Value.int IntKind.i64 1)) w) ∧
  (Option.isNone p0_q = false →
    Call Try.prog 27 [Value.pointer p0_q] w fun e w' =>
      ∃ p n c,
        e = Ending.returned (Value.slice p n c) ∧
          Call Try.prog 37 [Value.slice p n c, Value.int IntKind.i64 p1_n] w' fun e w' =>
            ∃ n_1,
              e = Ending.returned (Value.int IntKind.i64 n_1) ∧
                (decide (n_1 < (0 : Int)) = true → R (Ending.returned (Value.int IntKind.i64 4)) w') ∧
                  (decide (n_1 < (0 : Int)) = false →
                    Cut (WP Try.prog 45 (Code.loop c31_1) (e31_1 p0_q p n c n_1) w' (k31_1 R))))) := by kernel_rfl
theorem t31_1 (p0_q : Option Addr) (p5_l_a : Option Addr) (p5_l_n : Nat) (p5_l_c : Nat) (p7_i : Int) (w : World) (B31_1 : Env → World → Prop) (R : Ending → World → Prop) : den Try.prog M31 c31_1 (e31_1 p0_q p5_l_a p5_l_n p5_l_c p7_i) w (loopK B31_1 (k31_1 R)) =
((decide (IntKind.wrap IntKind.i64 (p7_i + (1 : Int)) < (↑p5_l_n : Int)) = true →
    ∀ (w' : World),
      World.heap w' = World.heap w →
        World.os w' = World.os w →
          World.tape w' = World.tape w →
            World.output w' = World.output w →
              ∃ a,
                p0_q = some a ∧
                  ∃ p n c,
                    World.cell? w' (Addr.add a 0) = some (Value.slice p n c) ∧
                      ((0 : Int) ≤ IntKind.wrap IntKind.i64 (p7_i + (1 : Int)) ∧
                          IntKind.wrap IntKind.i64 (p7_i + (1 : Int)) < (↑p5_l_n : Int)) ∧
                        ∃ a_1,
                          p5_l_a = some a_1 ∧
                            ∃ n_1,
                              World.cell? w'
                                    (Addr.add a_1
                                      (Int.toNat (IntKind.wrap IntKind.i64 (p7_i + (1 : Int))) * 1)) =
                                  some (Value.int IntKind.i64 n_1) ∧
                                Call Try.prog 33 [Value.pointer p0_q, Value.int IntKind.i64 p7_i] w'
                                  fun e w' =>
                                  ∃ n_2,
                                    e = Ending.returned (Value.int IntKind.i64 n_2) ∧
                                      World.cell? w'
                                            (Addr.add a_1
                                              (Int.toNat (IntKind.wrap IntKind.i64 (p7_i + (1 : Int))) * 1)) =
                                          some (Value.int IntKind.i64 n_1) ∧
                                        World.cell? w' (Addr.add a 0) = some (Value.slice p n c) ∧
                                          ((0 : Int) ≤ n_2 ∧ n_2 < (↑n : Int)) ∧
                                            ∃ a,
                                              p = some a ∧
                                                Wr w' (Addr.add a (Int.toNat n_2 * 1))
                                                  [Value.int IntKind.i64 n_1] fun w' =>
                                                  B31_1
                                                    [(0, SV.v (Value.pointer p0_q)),
                                                      (5, SV.v (Value.slice p5_l_a p5_l_n p5_l_c)),
                                                      (7,
                                                        SV.v
                                                          (Value.int IntKind.i64
                                                            (IntKind.wrap IntKind.i64 (p7_i + (1 : Int)))))]
                                                    w') ∧
  (decide (IntKind.wrap IntKind.i64 (p7_i + (1 : Int)) < (↑p5_l_n : Int)) = false →
    ∃ a,
      p0_q = some a ∧
        ∃ n,
          World.cell? w (Addr.add a 2) = some (Value.int IntKind.i64 n) ∧
            ∃ a,
              p0_q = some a ∧
                Wr w (Addr.add a 2) [Value.int IntKind.i64 (IntKind.wrap IntKind.i64 (n - (1 : Int)))]
                  fun w' => R (Ending.returned (Value.int IntKind.i64 0)) w')) := by kernel_rfl
/-! (*davit/fifo.Queue).Has -/
def M32 : Mt := { N := 9, keep := [(0, [0, 1]), (1, [4])], ords := [], bk := [], cuts := [], lk := [] }
noncomputable def c32 : Code := bodyOf Try.f32
theorem b32 : Try.f32.body = some c32 := by kernel_rfl
theorem n32 : Try.f32.ntmps = M32.N := by kernel_rfl
theorem u32 {p0_q : Option Addr} {p1_n : Int} {w : World} {R : Ending → World → Prop} (h : den Try.prog M32 c32 (argE 0 [(Value.pointer p0_q), (Value.int IntKind.i64 p1_n)]) w (retK Try.prog Try.f32.results.toList R)) : Calls Try.prog 32 #[(Value.pointer p0_q), (Value.int IntKind.i64 p1_n)] w R := calls_den okProg Try.func32 b32 n32 (Nat.le_of_ble_eq_true rfl) h
theorem t32 (p0_q : Option Addr) (p1_n : Int) (w : World) (R : Ending → World → Prop) : den Try.prog M32 c32 (argE 0 [(Value.pointer p0_q), (Value.int IntKind.i64 p1_n)]) w (retK Try.prog Try.f32.results.toList R) =
(Call Try.prog 27 [Value.pointer p0_q] w fun e w' =>
  ∃ p n c,
    e = Ending.returned (Value.slice p n c) ∧
      Call Try.prog 38 [Value.slice p n c, Value.int IntKind.i64 p1_n] w' fun e w' =>
        ∃ b, e = Ending.returned (Value.bool b) ∧ R (Ending.returned (Value.bool b)) w') := by kernel_rfl
/-! (*davit/fifo.Queue).at -/
def M33 : Mt := { N := 17, keep := [(0, [0, 1]), (1, [4])], ords := [(1, [0, 1, 2, 3, 4, 5, 6, 7, 8, 9, 10, 11, 12])], bk := [], cuts := [], lk := [] }
noncomputable def c33 : Code := bodyOf Try.f33
theorem b33 : Try.f33.body = some c33 := by kernel_rfl
theorem n33 : Try.f33.ntmps = M33.N := by kernel_rfl
theorem u33 {p0_q : Option Addr} {p1_n : Int} {w : World} {R : Ending → World → Prop} (h : den Try.prog M33 c33 (argE 0 [(Value.pointer p0_q), (Value.int IntKind.i64 p1_n)]) w (retK Try.prog Try.f33.results.toList R)) : Calls Try.prog 33 #[(Value.pointer p0_q), (Value.int IntKind.i64 p1_n)] w R := calls_den okProg Try.func33 b33 n33 (Nat.le_of_ble_eq_true rfl) h
theorem t33 (p0_q : Option Addr) (p1_n : Int) (w : World) (R : Ending → World → Prop) : den Try.prog M33 c33 (argE 0 [(Value.pointer p0_q), (Value.int IntKind.i64 p1_n)]) w (retK Try.prog Try.f33.results.toList R) =
(∀ (w' : World),
  World.heap w' = World.heap w →
    World.os w' = World.os w →
      World.tape w' = World.tape w →
        World.output w' = World.output w →
          ∃ a,
            p0_q = some a ∧
              ∃ n,
                World.cell? w' (Addr.add a 1) = some (Value.int IntKind.i64 n) ∧
                  ∃ a,
                    p0_q = some a ∧
                      ∃ p n_1 c,
                        World.cell? w' (Addr.add a 0) = some (Value.slice p n_1 c) ∧
                          (↑n_1 : Int) ≠ (0 : Int) ∧
                            R
                              (Ending.returned
                                (Value.int IntKind.i64 (Int.tmod (IntKind.wrap IntKind.i64 (n + p1_n)) (↑n_1 : Int))))
                              w') := by kernel_rfl
/-! (*davit/fifo.Queue).Len -/
def M35 : Mt := { N := 9, keep := [(0, [0]), (1, [0, 4]), (2, [2]), (3, [2])], ords := [], bk := [], cuts := [], lk := [] }
noncomputable def c35 : Code := bodyOf Try.f35
theorem b35 : Try.f35.body = some c35 := by kernel_rfl
theorem n35 : Try.f35.ntmps = M35.N := by kernel_rfl
theorem u35 {p0_q : Option Addr} {w : World} {R : Ending → World → Prop} (h : den Try.prog M35 c35 (argE 0 [(Value.pointer p0_q)]) w (retK Try.prog Try.f35.results.toList R)) : Calls Try.prog 35 #[(Value.pointer p0_q)] w R := calls_den okProg Try.func35 b35 n35 (Nat.le_of_ble_eq_true rfl) h
theorem t35 (p0_q : Option Addr) (w : World) (R : Ending → World → Prop) : den Try.prog M35 c35 (argE 0 [(Value.pointer p0_q)]) w (retK Try.prog Try.f35.results.toList R) =
((Option.isNone p0_q = true → R (Ending.returned (Value.int IntKind.i64 0)) w) ∧
  (Option.isNone p0_q = false →
    ∃ a,
      p0_q = some a ∧
        ∃ n,
          World.cell? w (Addr.add a 2) = some (Value.int IntKind.i64 n) ∧
            R (Ending.returned (Value.int IntKind.i64 n)) w)) := by kernel_rfl
/-! (*davit/fifo.Queue).Pop -/
def M36 : Mt := { N := 27, keep := [(0, [0]), (1, [0, 4, 5]), (2, [0, 4, 5, 12]), (3, [0, 4, 5]), (4, [4, 5]), (5, [2, 3])], ords := [], bk := [], cuts := [], lk := [] }
noncomputable def c36 : Code := bodyOf Try.f36
theorem b36 : Try.f36.body = some c36 := by kernel_rfl
theorem n36 : Try.f36.ntmps = M36.N := by kernel_rfl
theorem u36 {p0_q : Option Addr} {w : World} {R : Ending → World → Prop} (h : den Try.prog M36 c36 (argE 0 [(Value.pointer p0_q)]) w (retK Try.prog Try.f36.results.toList R)) : Calls Try.prog 36 #[(Value.pointer p0_q)] w R := calls_den okProg Try.func36 b36 n36 (Nat.le_of_ble_eq_true rfl) h
theorem t36 (p0_q : Option Addr) (w : World) (R : Ending → World → Prop) : den Try.prog M36 c36 (argE 0 [(Value.pointer p0_q)]) w (retK Try.prog Try.f36.results.toList R) =
(Call Try.prog 29 [Value.pointer p0_q] w fun e w' =>
  ∃ n n_1,
    e = Ending.returned (Value.tuple #[Value.int IntKind.i64 n, Value.int IntKind.i64 n_1]) ∧
      ((n_1 == (0 : Int)) = true →
          Call Try.prog 33 [Value.pointer p0_q, Value.int IntKind.i64 1] w' fun e w' =>
            ∃ n_2,
              e = Ending.returned (Value.int IntKind.i64 n_2) ∧
                ∃ a,
                  p0_q = some a ∧
                    Wr w' (Addr.add a 1) [Value.int IntKind.i64 n_2] fun w' =>
                      ∃ a,
                        p0_q = some a ∧
                          ∃ n_3,
                            World.cell? w' (Addr.add a 2) = some (Value.int IntKind.i64 n_3) ∧
                              ∃ a,
                                p0_q = some a ∧
                                  Wr w' (Addr.add a 2)
                                    [Value.int IntKind.i64 (IntKind.wrap IntKind.i64 (n_3 - (1 : Int)))] fun w' =>
                                    R
                                      (Ending.returned
                                        (Value.tuple #[Value.int IntKind.i64 n, Value.int IntKind.i64 n_1]))
                                      w') ∧
        ((n_1 == (0 : Int)) = false →
          R (Ending.returned (Value.tuple #[Value.int IntKind.i64 n, Value.int IntKind.i64 n_1])) w')) := by kernel_rfl
/-! slices.Index[[]int,int] -/
def M37 : Mt := { N := 19, keep := [(0, [0, 1]), (1, [0, 1, 7, 8]), (2, [0, 1, 7, 8, 9]), (3, [0, 1, 5, 7, 8]), (4, [0, 1, 5, 7, 8, 16]), (5, [4]), (6, [0, 1, 7, 8]), (7, [4])], ords := [], bk := [(0, []), (1, [0, 1, 7, 8])], cuts := [], lk := [(2, [0, 1, 7, 8])] }
noncomputable def c37 : Code := bodyOf Try.f37
noncomputable def c37_0 : Code := c37.sr.sr
noncomputable def c37_1 : Code := c37.sr.sl.sr.sl.sl
def e37_1 (p0_s_a : Option Addr) (p0_s_n : Nat) (p0_s_c : Nat) (p1_v : Int) (p7_t : Int) (p8_t : Int) : Env := [(0, SV.v (Value.slice p0_s_a p0_s_n p0_s_c)), (1, SV.v (Value.int IntKind.i64 p1_v)), (7, SV.v (Value.int IntKind.i64 p7_t)), (8, SV.v (Value.int IntKind.i64 p8_t))]
def k37_1 (R : Ending → World → Prop) : Cont := blockK 0 [] (seqK (fun E w => cutB (findL M37.cuts (headReg c37_0)) Try.prog M37 c37_0 E w (retK Try.prog Try.f37.results.toList R) fun E => den Try.prog M37 c37_0 E w (retK Try.prog Try.f37.results.toList R)) (retK Try.prog Try.f37.results.toList R))
theorem b37 : Try.f37.body = some c37 := by kernel_rfl
theorem n37 : Try.f37.ntmps = M37.N := by kernel_rfl
theorem u37 {p0_s_a : Option Addr} {p0_s_n : Nat} {p0_s_c : Nat} {p1_v : Int} {w : World} {R : Ending → World → Prop} (h : den Try.prog M37 c37 (argE 0 [(Value.slice p0_s_a p0_s_n p0_s_c), (Value.int IntKind.i64 p1_v)]) w (retK Try.prog Try.f37.results.toList R)) : Calls Try.prog 37 #[(Value.slice p0_s_a p0_s_n p0_s_c), (Value.int IntKind.i64 p1_v)] w R := calls_den okProg Try.func37 b37 n37 (Nat.le_of_ble_eq_true rfl) h
theorem t37 (p0_s_a : Option Addr) (p0_s_n : Nat) (p0_s_c : Nat) (p1_v : Int) (w : World) (R : Ending → World → Prop) : den Try.prog M37 c37 (argE 0 [(Value.slice p0_s_a p0_s_n p0_s_c), (Value.int IntKind.i64 p1_v)]) w (retK Try.prog Try.f37.results.toList R) =
(Cut
  (WP Try.prog 19 (Code.loop c37_1) (e37_1 p0_s_a p0_s_n p0_s_c p1_v (↑p0_s_n : Int) (0 : Int)) w
    (k37_1 R))) := by kernel_rfl
theorem t37_1 (p0_s_a : Option Addr) (p0_s_n : Nat) (p0_s_c : Nat) (p1_v : Int) (p7_t : Int) (p8_t : Int) (w : World) (B37_1 : Env → World → Prop) (R : Ending → World → Prop) : den Try.prog M37 c37_1 (e37_1 p0_s_a p0_s_n p0_s_c p1_v p7_t p8_t) w (loopK B37_1 (k37_1 R)) =
((decide (p8_t < p7_t) = true →
    ((0 : Int) ≤ p8_t ∧ p8_t < (↑p0_s_n : Int)) ∧
      ∃ a,
        p0_s_a = some a ∧
          ∃ n,
            World.cell? w (Addr.add a (Int.toNat p8_t * 1)) = some (Value.int IntKind.i64 n) ∧
              ((p1_v == n) = true → R (Ending.returned (Value.int IntKind.i64 p8_t)) w) ∧
                ((p1_v == n) = false →
                  B37_1
                    [(0, SV.v (Value.slice p0_s_a p0_s_n p0_s_c)),
                      (1, SV.v (Value.int IntKind.i64 p1_v)), (7, SV.v (Value.int IntKind.i64 p7_t)),
                      (8, SV.v (Value.int IntKind.i64 (IntKind.wrap IntKind.i64 (p8_t + (1 : Int)))))]
                    w)) ∧
  (decide (p8_t < p7_t) = false → R (Ending.returned (Value.int IntKind.i64 (-1 : Int))) w)) := by kernel_rfl
/-! slices.Contains[[]int,int] -/
def M38 : Mt := { N := 9, keep := [(0, [0, 1]), (1, [4])], ords := [], bk := [], cuts := [], lk := [] }
noncomputable def c38 : Code := bodyOf Try.f38
theorem b38 : Try.f38.body = some c38 := by kernel_rfl
theorem n38 : Try.f38.ntmps = M38.N := by kernel_rfl
theorem u38 {p0_s_a : Option Addr} {p0_s_n : Nat} {p0_s_c : Nat} {p1_v : Int} {w : World} {R : Ending → World → Prop} (h : den Try.prog M38 c38 (argE 0 [(Value.slice p0_s_a p0_s_n p0_s_c), (Value.int IntKind.i64 p1_v)]) w (retK Try.prog Try.f38.results.toList R)) : Calls Try.prog 38 #[(Value.slice p0_s_a p0_s_n p0_s_c), (Value.int IntKind.i64 p1_v)] w R := calls_den okProg Try.func38 b38 n38 (Nat.le_of_ble_eq_true rfl) h
theorem t38 (p0_s_a : Option Addr) (p0_s_n : Nat) (p0_s_c : Nat) (p1_v : Int) (w : World) (R : Ending → World → Prop) : den Try.prog M38 c38 (argE 0 [(Value.slice p0_s_a p0_s_n p0_s_c), (Value.int IntKind.i64 p1_v)]) w (retK Try.prog Try.f38.results.toList R) =
(Call Try.prog 37 [Value.slice p0_s_a p0_s_n p0_s_c, Value.int IntKind.i64 p1_v] w fun e w' =>
  ∃ n, e = Ending.returned (Value.int IntKind.i64 n) ∧ R (Ending.returned (Value.bool (decide (n ≥ (0 : Int))))) w') := by kernel_rfl
end Go.Dav
