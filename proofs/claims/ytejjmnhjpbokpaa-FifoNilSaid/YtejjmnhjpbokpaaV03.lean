/- What functions of the program come to. -/
import Derived.Test.YtejjmnhjpbokpaaPrg03
namespace Go.Dav
open Go.Proofs
/-! davit/davitlaw03.FifoOrder -/
def M3 : Mt := { N := 79, keep := [(0, [0]), (1, [0, 3, 4]), (2, [0, 3, 4, 22]), (3, [2]), (4, [0, 3, 5]), (5, [0, 3, 5, 6]), (6, [0, 3, 5, 6, 31]), (7, [0, 3, 5, 6]), (8, [0, 3, 5, 6, 40]), (9, [0, 3, 5, 6]), (10, [3, 5, 7]), (11, [3, 5, 7, 51]), (12, [3, 5, 7]), (13, [3, 5, 7, 8, 9]), (14, [3, 5, 7, 68]), (15, [2]), (16, [11]), (17, [2])], ords := [], bk := [(0, [3, 5]), (1, [0, 3, 5, 6]), (2, [3]), (3, [3, 5, 7])], cuts := [(10, [3, 5]), (16, [3])], lk := [(6, [0, 3, 5, 6]), (11, [3, 5, 7])] }
noncomputable def c3 : Code := bodyOf Try.f3
noncomputable def c3_0 : Code := c3.sr.sr.sr.sr.sr
noncomputable def c3_1 : Code := c3.sr.sr.sr.sr.sr.sr
noncomputable def c3_2 : Code := c3.sr.sr.sr.sr.sl.sr.sl.sl
noncomputable def c3_3 : Code := c3.sr.sr.sr.sr.sr.sl.sr.sl.sl
def e3_0 (p3_q : Option Addr) (p5_want_a : Option Addr) (p5_want_n : Nat) (p5_want_c : Nat) : Env := [(3, SV.v (Value.pointer p3_q)), (5, SV.v (Value.slice p5_want_a p5_want_n p5_want_c))]
def e3_2 (p0_l_a : Option Addr) (p0_l_n : Nat) (p0_l_c : Nat) (p3_q : Option Addr) (p5_want_a : Option Addr) (p5_want_n : Nat) (p5_want_c : Nat) (p6_i : Int) : Env := [(0, SV.v (Value.slice p0_l_a p0_l_n p0_l_c)), (3, SV.v (Value.pointer p3_q)), (5, SV.v (Value.slice p5_want_a p5_want_n p5_want_c)), (6, SV.v (Value.int IntKind.i64 p6_i))]
def e3_1 (p3_q : Option Addr) : Env := [(3, SV.v (Value.pointer p3_q))]
def e3_3 (p3_q : Option Addr) (p5_want_a : Option Addr) (p5_want_n : Nat) (p5_want_c : Nat) (p7_i : Int) : Env := [(3, SV.v (Value.pointer p3_q)), (5, SV.v (Value.slice p5_want_a p5_want_n p5_want_c)), (7, SV.v (Value.int IntKind.i64 p7_i))]
def k3_0 (R : Ending → World → Prop) : Cont := retK Try.prog Try.f3.results.toList R
def k3_2 (R : Ending → World → Prop) : Cont := blockK 0 [3, 5] (seqK (fun E w => cutB (findL M3.cuts (headReg c3_0)) Try.prog M3 c3_0 E w (retK Try.prog Try.f3.results.toList R) fun E => den Try.prog M3 c3_0 E w (retK Try.prog Try.f3.results.toList R)) (retK Try.prog Try.f3.results.toList R))
def k3_1 (R : Ending → World → Prop) : Cont := retK Try.prog Try.f3.results.toList R
def k3_3 (R : Ending → World → Prop) : Cont := blockK 2 [3] (seqK (fun E w => cutB (findL M3.cuts (headReg c3_1)) Try.prog M3 c3_1 E w (retK Try.prog Try.f3.results.toList R) fun E => den Try.prog M3 c3_1 E w (retK Try.prog Try.f3.results.toList R)) (retK Try.prog Try.f3.results.toList R))
theorem b3 : Try.f3.body = some c3 := by kernel_rfl
theorem n3 : Try.f3.ntmps = M3.N := by kernel_rfl
theorem u3 {p0_l_a : Option Addr} {p0_l_n : Nat} {p0_l_c : Nat} {w : World} {R : Ending → World → Prop} (h : den Try.prog M3 c3 (argE 0 [(Value.slice p0_l_a p0_l_n p0_l_c)]) w (retK Try.prog Try.f3.results.toList R)) : Calls Try.prog 3 #[(Value.slice p0_l_a p0_l_n p0_l_c)] w R := calls_den okProg Try.func3 b3 n3 (Nat.le_of_ble_eq_true rfl) h
theorem t3 (p0_l_a : Option Addr) (p0_l_n : Nat) (p0_l_c : Nat) (w : World) (R : Ending → World → Prop) : den Try.prog M3 c3 (argE 0 [(Value.slice p0_l_a p0_l_n p0_l_c)]) w (retK Try.prog Try.f3.results.toList R) =
(Call Try.prog 7 [Value.int IntKind.i64 1024] w fun e w' =>
  ∃ p n,
    e = Ending.returned (Value.tuple #[Value.pointer p, Value.int IntKind.i64 n]) ∧
      ((n != (0 : Int)) = false →
          (decide ((↑p0_l_n : Int) > (500 : Int)) = true →
              ((n == (0 : Int)) = true →
                  Call Try.prog 8 [] w' fun e w' =>
                    ∃ b, e = Ending.returned (Value.bool b) ∧ R (Ending.returned (Value.bool b)) w') ∧
                ((n == (0 : Int)) = false → R (Ending.returned (Value.bool false)) w')) ∧
            (decide ((↑p0_l_n : Int) > (500 : Int)) = false →
              Cut
                (WP Try.prog 79 (Code.loop c3_2)
                  (e3_2 p0_l_a p0_l_n p0_l_c p none 0 0 (0 : Int)) w' (k3_2 R)))) ∧
        ((n != (0 : Int)) = true →
          ((n == (0 : Int)) = true →
              Call Try.prog 8 [] w' fun e w' =>
                ∃ b, e = Ending.returned (Value.bool b) ∧ R (Ending.returned (Value.bool b)) w') ∧
            ((n == (0 : Int)) = false → R (Ending.returned (Value.bool false)) w'))) := by kernel_rfl
theorem t3_0 (p3_q : Option Addr) (p5_want_a : Option Addr) (p5_want_n : Nat) (p5_want_c : Nat) (w : World) (R : Ending → World → Prop) : den Try.prog M3 c3_0 (e3_0 p3_q p5_want_a p5_want_n p5_want_c) w (k3_0 R) =
(Cut (WP Try.prog 79 (Code.loop c3_3) (e3_3 p3_q p5_want_a p5_want_n p5_want_c (0 : Int)) w (k3_3 R))) := by kernel_rfl
theorem t3_2 (p0_l_a : Option Addr) (p0_l_n : Nat) (p0_l_c : Nat) (p3_q : Option Addr) (p5_want_a : Option Addr) (p5_want_n : Nat) (p5_want_c : Nat) (p6_i : Int) (w : World) (B3_2 : Env → World → Prop) (R : Ending → World → Prop) : den Try.prog M3 c3_2 (e3_2 p0_l_a p0_l_n p0_l_c p3_q p5_want_a p5_want_n p5_want_c p6_i) w (loopK B3_2 (k3_2 R)) =
((decide (p6_i < (↑p0_l_n : Int)) = true →
    ((0 : Int) ≤ p6_i ∧ p6_i < (↑p0_l_n : Int)) ∧
      ∃ a,
        p0_l_a = some a ∧
          ∃ n,
            World.cell? w (Addr.add a (Int.toNat p6_i * 1)) = some (Value.int IntKind.i64 n) ∧
              Call Try.prog 9 [Value.pointer p3_q, Value.int IntKind.i64 n] w fun e w' =>
                ∃ n,
                  e = Ending.returned (Value.int IntKind.i64 n) ∧
                    ((n == (0 : Int)) = true →
                        ((0 : Int) ≤ p6_i ∧ p6_i < (↑p0_l_n : Int)) ∧
                          ∃ a,
                            p0_l_a = some a ∧
                              ∃ n,
                                World.cell? w' (Addr.add a (Int.toNat p6_i * 1)) =
                                    some (Value.int IntKind.i64 n) ∧
                                  New w' [Value.int IntKind.i64 n] 3 fun p w' =>
                                    ∃ p_1 n c w'_1,
                                      Sem.run Try.prog
                                            (Builtin.append_ #[22, 22] 22
                                              #[Value.slice p5_want_a p5_want_n p5_want_c,
                                                Value.slice (some p) 1 1])
                                            w' =
                                          Result.ok (Value.slice p_1 n c) w'_1 ∧
                                        B3_2
                                          [(0, SV.v (Value.slice p0_l_a p0_l_n p0_l_c)),
                                            (3, SV.v (Value.pointer p3_q)),
                                            (5, SV.v (Value.slice p_1 n c)),
                                            (6,
                                              SV.v
                                                (Value.int IntKind.i64 (IntKind.wrap IntKind.i64 (p6_i + (1 : Int)))))]
                                          w'_1) ∧
                      ((n == (0 : Int)) = false →
                        B3_2
                          [(0, SV.v (Value.slice p0_l_a p0_l_n p0_l_c)),
                            (3, SV.v (Value.pointer p3_q)),
                            (5, SV.v (Value.slice p5_want_a p5_want_n p5_want_c)),
                            (6, SV.v (Value.int IntKind.i64 (IntKind.wrap IntKind.i64 (p6_i + (1 : Int)))))]
                          w')) ∧
  (decide (p6_i < (↑p0_l_n : Int)) = false →
    CutD Try.prog M3 c3_0 (e3_0 p3_q p5_want_a p5_want_n p5_want_c) w (k3_0 R))) := by kernel_rfl
theorem t3_1 (p3_q : Option Addr) (w : World) (R : Ending → World → Prop) : den Try.prog M3 c3_1 (e3_1 p3_q) w (k3_1 R) =
(Call Try.prog 10 [Value.pointer p3_q] w fun e w' =>
  ∃ n n_1,
    e = Ending.returned (Value.tuple #[Value.int IntKind.i64 n, Value.int IntKind.i64 n_1]) ∧
      ((n_1 == (12 : Int)) = true →
          Call Try.prog 8 [] w' fun e w' =>
            ∃ b, e = Ending.returned (Value.bool b) ∧ R (Ending.returned (Value.bool b)) w') ∧
        ((n_1 == (12 : Int)) = false → R (Ending.returned (Value.bool false)) w')) := by kernel_rfl
theorem t3_3 (p3_q : Option Addr) (p5_want_a : Option Addr) (p5_want_n : Nat) (p5_want_c : Nat) (p7_i : Int) (w : World) (B3_3 : Env → World → Prop) (R : Ending → World → Prop) : den Try.prog M3 c3_3 (e3_3 p3_q p5_want_a p5_want_n p5_want_c p7_i) w (loopK B3_3 (k3_3 R)) =
((decide (p7_i < (↑p5_want_n : Int)) = true →
    Call Try.prog 10 [Value.pointer p3_q] w fun e w' =>
      ∃ n n_1,
        e = Ending.returned (Value.tuple #[Value.int IntKind.i64 n, Value.int IntKind.i64 n_1]) ∧
          ((0 : Int) ≤ p7_i ∧ p7_i < (↑p5_want_n : Int)) ∧
            ∃ a,
              p5_want_a = some a ∧
                ∃ n_2,
                  World.cell? w' (Addr.add a (Int.toNat p7_i * 1)) = some (Value.int IntKind.i64 n_2) ∧
                    ((n != n_2) = false →
                        ((n_1 != (0 : Int)) = true → R (Ending.returned (Value.bool false)) w') ∧
                          ((n_1 != (0 : Int)) = false →
                            B3_3
                              [(3, SV.v (Value.pointer p3_q)),
                                (5, SV.v (Value.slice p5_want_a p5_want_n p5_want_c)),
                                (7,
                                  SV.v (Value.int IntKind.i64 (IntKind.wrap IntKind.i64 (p7_i + (1 : Int)))))]
                              w')) ∧
                      ((n != n_2) = true → R (Ending.returned (Value.bool false)) w')) ∧
  (decide (p7_i < (↑p5_want_n : Int)) = false → CutD Try.prog M3 c3_1 (e3_1 p3_q) w (k3_1 R))) := by kernel_rfl
/-! davit/davitlaw03.FifoRound -/
def M4 : Mt := { N := 54, keep := [(0, [0]), (1, [0, 3, 4]), (2, [0, 3, 4, 18]), (3, [2]), (4, [0, 3, 5]), (5, [0, 3, 5, 27]), (6, [0, 3, 5]), (7, [0, 3, 5]), (8, [3, 6]), (9, [3, 6, 7]), (10, [3, 6, 7, 41]), (11, [3, 6, 7]), (12, [3, 6, 7, 46]), (13, [2]), (14, [2])], ords := [], bk := [(0, [3]), (1, [0, 3, 5]), (2, [3, 6]), (3, [3, 6, 7])], cuts := [(8, [3]), (14, [3, 6])], lk := [(5, [0, 3, 5]), (10, [3, 6, 7])] }
noncomputable def c4 : Code := bodyOf Try.f4
noncomputable def c4_0 : Code := c4.sr.sr.sr.sr
noncomputable def c4_1 : Code := c4.sr.sr.sr.sr.sr.sr
noncomputable def c4_2 : Code := c4.sr.sr.sr.sl.sr.sl.sl
noncomputable def c4_3 : Code := c4.sr.sr.sr.sr.sr.sl.sr.sl.sl
def e4_0 (p3_q : Option Addr) : Env := [(3, SV.v (Value.pointer p3_q))]
def e4_2 (p0_l_a : Option Addr) (p0_l_n : Nat) (p0_l_c : Nat) (p3_q : Option Addr) (p5_i : Int) : Env := [(0, SV.v (Value.slice p0_l_a p0_l_n p0_l_c)), (3, SV.v (Value.pointer p3_q)), (5, SV.v (Value.int IntKind.i64 p5_i))]
def e4_1 (p3_q : Option Addr) (p6_was_a : Option Addr) (p6_was_n : Nat) (p6_was_c : Nat) : Env := [(3, SV.v (Value.pointer p3_q)), (6, SV.v (Value.slice p6_was_a p6_was_n p6_was_c))]
def e4_3 (p3_q : Option Addr) (p6_was_a : Option Addr) (p6_was_n : Nat) (p6_was_c : Nat) (p7_i : Int) : Env := [(3, SV.v (Value.pointer p3_q)), (6, SV.v (Value.slice p6_was_a p6_was_n p6_was_c)), (7, SV.v (Value.int IntKind.i64 p7_i))]
def k4_0 (R : Ending → World → Prop) : Cont := retK Try.prog Try.f4.results.toList R
def k4_2 (R : Ending → World → Prop) : Cont := blockK 0 [3] (seqK (fun E w => cutB (findL M4.cuts (headReg c4_0)) Try.prog M4 c4_0 E w (retK Try.prog Try.f4.results.toList R) fun E => den Try.prog M4 c4_0 E w (retK Try.prog Try.f4.results.toList R)) (retK Try.prog Try.f4.results.toList R))
def k4_1 (R : Ending → World → Prop) : Cont := retK Try.prog Try.f4.results.toList R
def k4_3 (R : Ending → World → Prop) : Cont := blockK 2 [3, 6] (seqK (fun E w => cutB (findL M4.cuts (headReg c4_1)) Try.prog M4 c4_1 E w (retK Try.prog Try.f4.results.toList R) fun E => den Try.prog M4 c4_1 E w (retK Try.prog Try.f4.results.toList R)) (retK Try.prog Try.f4.results.toList R))
theorem b4 : Try.f4.body = some c4 := by kernel_rfl
theorem n4 : Try.f4.ntmps = M4.N := by kernel_rfl
theorem u4 {p0_l_a : Option Addr} {p0_l_n : Nat} {p0_l_c : Nat} {w : World} {R : Ending → World → Prop} (h : den Try.prog M4 c4 (argE 0 [(Value.slice p0_l_a p0_l_n p0_l_c)]) w (retK Try.prog Try.f4.results.toList R)) : Calls Try.prog 4 #[(Value.slice p0_l_a p0_l_n p0_l_c)] w R := calls_den okProg Try.func4 b4 n4 (Nat.le_of_ble_eq_true rfl) h
theorem t4 (p0_l_a : Option Addr) (p0_l_n : Nat) (p0_l_c : Nat) (w : World) (R : Ending → World → Prop) : den Try.prog M4 c4 (argE 0 [(Value.slice p0_l_a p0_l_n p0_l_c)]) w (retK Try.prog Try.f4.results.toList R) =
(Call Try.prog 7 [Value.int IntKind.i64 1024] w fun e w' =>
  ∃ p n,
    e = Ending.returned (Value.tuple #[Value.pointer p, Value.int IntKind.i64 n]) ∧
      ((n != (0 : Int)) = false →
          (decide ((↑p0_l_n : Int) > (300 : Int)) = true →
              ((n == (0 : Int)) = true →
                  Call Try.prog 8 [] w' fun e w' =>
                    ∃ b, e = Ending.returned (Value.bool b) ∧ R (Ending.returned (Value.bool b)) w') ∧
                ((n == (0 : Int)) = false → R (Ending.returned (Value.bool false)) w')) ∧
            (decide ((↑p0_l_n : Int) > (300 : Int)) = false →
              Cut (WP Try.prog 54 (Code.loop c4_2) (e4_2 p0_l_a p0_l_n p0_l_c p (0 : Int)) w' (k4_2 R)))) ∧
        ((n != (0 : Int)) = true →
          ((n == (0 : Int)) = true →
              Call Try.prog 8 [] w' fun e w' =>
                ∃ b, e = Ending.returned (Value.bool b) ∧ R (Ending.returned (Value.bool b)) w') ∧
            ((n == (0 : Int)) = false → R (Ending.returned (Value.bool false)) w'))) := by kernel_rfl
theorem t4_0 (p3_q : Option Addr) (w : World) (R : Ending → World → Prop) : den Try.prog M4 c4_0 (e4_0 p3_q) w (k4_0 R) =
(Call Try.prog 11 [Value.pointer p3_q] w fun e w' =>
  ∃ p n c,
    e = Ending.returned (Value.slice p n c) ∧
      Cut (WP Try.prog 54 (Code.loop c4_3) (e4_3 p3_q p n c (0 : Int)) w' (k4_3 R))) := by kernel_rfl
theorem t4_2 (p0_l_a : Option Addr) (p0_l_n : Nat) (p0_l_c : Nat) (p3_q : Option Addr) (p5_i : Int) (w : World) (B4_2 : Env → World → Prop) (R : Ending → World → Prop) : den Try.prog M4 c4_2 (e4_2 p0_l_a p0_l_n p0_l_c p3_q p5_i) w (loopK B4_2 (k4_2 R)) =
((decide (p5_i < (↑p0_l_n : Int)) = true →
    ((0 : Int) ≤ p5_i ∧ p5_i < (↑p0_l_n : Int)) ∧
      ∃ a,
        p0_l_a = some a ∧
          ∃ n,
            World.cell? w (Addr.add a (Int.toNat p5_i * 1)) = some (Value.int IntKind.i64 n) ∧
              Call Try.prog 9 [Value.pointer p3_q, Value.int IntKind.i64 n] w fun e w' =>
                ∃ n,
                  e = Ending.returned (Value.int IntKind.i64 n) ∧
                    B4_2
                      [(0, SV.v (Value.slice p0_l_a p0_l_n p0_l_c)), (3, SV.v (Value.pointer p3_q)),
                        (5, SV.v (Value.int IntKind.i64 (IntKind.wrap IntKind.i64 (p5_i + (1 : Int)))))]
                      w') ∧
  (decide (p5_i < (↑p0_l_n : Int)) = false → CutD Try.prog M4 c4_0 (e4_0 p3_q) w (k4_0 R))) := by kernel_rfl
theorem t4_1 (p3_q : Option Addr) (p6_was_a : Option Addr) (p6_was_n : Nat) (p6_was_c : Nat) (w : World) (R : Ending → World → Prop) : den Try.prog M4 c4_1 (e4_1 p3_q p6_was_a p6_was_n p6_was_c) w (k4_1 R) =
(Call Try.prog 11 [Value.pointer p3_q] w fun e w' =>
  ∃ p n c,
    e = Ending.returned (Value.slice p n c) ∧
      Call Try.prog 13 [Value.slice p n c, Value.slice p6_was_a p6_was_n p6_was_c] w' fun e w' =>
        ∃ b,
          e = Ending.returned (Value.bool b) ∧
            (b = true →
                Call Try.prog 8 [] w' fun e w' =>
                  ∃ b, e = Ending.returned (Value.bool b) ∧ R (Ending.returned (Value.bool b)) w') ∧
              (b = false → R (Ending.returned (Value.bool false)) w')) := by kernel_rfl
theorem t4_3 (p3_q : Option Addr) (p6_was_a : Option Addr) (p6_was_n : Nat) (p6_was_c : Nat) (p7_i : Int) (w : World) (B4_3 : Env → World → Prop) (R : Ending → World → Prop) : den Try.prog M4 c4_3 (e4_3 p3_q p6_was_a p6_was_n p6_was_c p7_i) w (loopK B4_3 (k4_3 R)) =
((decide (p7_i < (↑p6_was_n : Int)) = true →
    Call Try.prog 12 [Value.pointer p3_q] w fun e w' =>
      ∃ n,
        e = Ending.returned (Value.int IntKind.i64 n) ∧
          ((n != (0 : Int)) = true → R (Ending.returned (Value.bool false)) w') ∧
            ((n != (0 : Int)) = false →
              B4_3
                [(3, SV.v (Value.pointer p3_q)), (6, SV.v (Value.slice p6_was_a p6_was_n p6_was_c)),
                  (7, SV.v (Value.int IntKind.i64 (IntKind.wrap IntKind.i64 (p7_i + (1 : Int)))))]
                w')) ∧
  (decide (p7_i < (↑p6_was_n : Int)) = false →
    CutD Try.prog M4 c4_1 (e4_1 p3_q p6_was_a p6_was_n p6_was_c) w (k4_1 R))) := by kernel_rfl
/-! davit/davitlaw03.FifoPlays -/
def M5 : Mt := { N := 175, keep := [(0, [0, 1, 2]), (1, [0, 1, 2, 7, 8]), (2, [0, 1, 2, 7, 8, 9, 10]), (3, [0, 1, 2, 7, 9, 39]), (4, [6]), (5, [0, 1, 2, 7, 9, 41]), (6, [6]), (7, [0, 1, 2, 7, 9, 11]), (8, [0, 1, 2, 7, 9, 11, 50]), (9, [0, 1, 2, 7, 9, 11]), (10, [0, 1, 2, 7, 9, 11, 58]), (11, [0, 1, 2, 7, 9, 11, 63]), (12, [6]), (13, [0, 1, 2, 7, 9, 11, 58, 64]), (14, [0, 1, 2, 7, 9, 11, 80]), (15, [6]), (16, [0, 1, 2, 7, 9, 11, 58, 81]), (17, [0, 1, 2, 7, 9, 11, 12, 13]), (18, [0, 1, 2, 7, 9, 11, 12, 13, 14, 15]), (19, [0, 1, 2, 7, 9, 11, 100]), (20, [6]), (21, [0, 1, 2, 7, 9, 11, 101]), (22, [0, 1, 2, 7, 9, 11, 117]), (23, [6]), (24, [0, 1, 2, 7, 9, 11, 16, 17]), (25, [0, 1, 2, 7, 9, 11, 16, 17, 18, 19]), (26, [0, 1, 2, 7, 9, 11, 173]), (27, [6]), (28, [6])], ords := [(14, [0, 1, 2, 3, 4, 5, 7, 8, 9, 10, 11, 12, 6, 13, 14]), (22, [0, 1, 2, 3, 4, 5, 7, 8, 9, 10, 11, 12, 6, 13, 14]), (26, [0, 1, 2, 3, 4, 5, 6, 7, 8, 9, 11, 12, 13, 14, 15, 10, 16, 17, 18, 19, 21, 20, 22, 23, 24, 25, 27, 28, 29, 30, 26, 31, 32, 33, 34, 35, 36, 38, 39, 40, 41, 42, 37, 43, 44, 45])], bk := [(0, []), (1, [0, 1, 2, 7, 9, 11]), (2, [0, 1, 2, 7, 9, 11])], cuts := [(24, [0, 1, 2, 7, 9, 11]), (28, [])], lk := [(8, [0, 1, 2, 7, 9, 11])] }
noncomputable def c5 : Code := bodyOf Try.f5
noncomputable def c5_0 : Code := c5.sr.sr.sr.sr.sr.sr
noncomputable def c5_1 : Code := c5.sr.sr.sr.sr.sr.sl.sr.sl.sl
noncomputable def c5_2 : Code := c5.sr.sr.sr.sr.sr.sl.sr.sl.sl.sr.sr
noncomputable def c5_3 : Code := c5.sr.sr.sr.sr.sr.sl.sr.sl.sl.sr.sl.sl.sr
def e5_0  : Env := []
def e5_1 (p0_most : Int) (p1_acts_a : Option Addr) (p1_acts_n : Nat) (p1_acts_c : Nat) (p2_n : Int) (p7_q : Option Addr) (p9_r : Option Addr) (p11_i : Int) : Env := [(0, SV.v (Value.int IntKind.i64 p0_most)), (1, SV.v (Value.slice p1_acts_a p1_acts_n p1_acts_c)), (2, SV.v (Value.int IntKind.i64 p2_n)), (7, SV.v (Value.pointer p7_q)), (9, SV.v (Value.pointer p9_r)), (11, SV.v (Value.int IntKind.i64 p11_i))]
def e5_3 (p0_most : Int) (p1_acts_a : Option Addr) (p1_acts_n : Nat) (p1_acts_c : Nat) (p2_n : Int) (p7_q : Option Addr) (p9_r : Option Addr) (p11_i : Int) : Env := [(0, SV.v (Value.int IntKind.i64 p0_most)), (1, SV.v (Value.slice p1_acts_a p1_acts_n p1_acts_c)), (2, SV.v (Value.int IntKind.i64 p2_n)), (7, SV.v (Value.pointer p7_q)), (9, SV.v (Value.pointer p9_r)), (11, SV.v (Value.int IntKind.i64 p11_i))]
def k5_0 (R : Ending → World → Prop) : Cont := retK Try.prog Try.f5.results.toList R
def k5_1 (R : Ending → World → Prop) : Cont := blockK 0 [] (seqK (fun E w => cutB (findL M5.cuts (headReg c5_0)) Try.prog M5 c5_0 E w (retK Try.prog Try.f5.results.toList R) fun E => den Try.prog M5 c5_0 E w (retK Try.prog Try.f5.results.toList R)) (retK Try.prog Try.f5.results.toList R))
def k5_3 (B5_1 : Env → World → Prop) (R : Ending → World → Prop) : Cont := blockK 1 [0, 1, 2, 7, 9, 11] (seqK (fun E w => cutB (findL M5.cuts (headReg c5_2)) Try.prog M5 c5_2 E w (loopK B5_1 (blockK 0 [] (seqK (fun E w => cutB (findL M5.cuts (headReg c5_0)) Try.prog M5 c5_0 E w (retK Try.prog Try.f5.results.toList R) fun E => den Try.prog M5 c5_0 E w (retK Try.prog Try.f5.results.toList R)) (retK Try.prog Try.f5.results.toList R)))) fun E => den Try.prog M5 c5_2 E w (loopK B5_1 (blockK 0 [] (seqK (fun E w => cutB (findL M5.cuts (headReg c5_0)) Try.prog M5 c5_0 E w (retK Try.prog Try.f5.results.toList R) fun E => den Try.prog M5 c5_0 E w (retK Try.prog Try.f5.results.toList R)) (retK Try.prog Try.f5.results.toList R))))) (loopK B5_1 (blockK 0 [] (seqK (fun E w => cutB (findL M5.cuts (headReg c5_0)) Try.prog M5 c5_0 E w (retK Try.prog Try.f5.results.toList R) fun E => den Try.prog M5 c5_0 E w (retK Try.prog Try.f5.results.toList R)) (retK Try.prog Try.f5.results.toList R)))))
theorem b5 : Try.f5.body = some c5 := by kernel_rfl
theorem n5 : Try.f5.ntmps = M5.N := by kernel_rfl
theorem u5 {p0_most : Int} {p1_acts_a : Option Addr} {p1_acts_n : Nat} {p1_acts_c : Nat} {p2_n : Int} {w : World} {R : Ending → World → Prop} (h : den Try.prog M5 c5 (argE 0 [(Value.int IntKind.i64 p0_most), (Value.slice p1_acts_a p1_acts_n p1_acts_c), (Value.int IntKind.i64 p2_n)]) w (retK Try.prog Try.f5.results.toList R)) : Calls Try.prog 5 #[(Value.int IntKind.i64 p0_most), (Value.slice p1_acts_a p1_acts_n p1_acts_c), (Value.int IntKind.i64 p2_n)] w R := calls_den okProg Try.func5 b5 n5 (Nat.le_of_ble_eq_true rfl) h
theorem t5 (p0_most : Int) (p1_acts_a : Option Addr) (p1_acts_n : Nat) (p1_acts_c : Nat) (p2_n : Int) (w : World) (R : Ending → World → Prop) : den Try.prog M5 c5 (argE 0 [(Value.int IntKind.i64 p0_most), (Value.slice p1_acts_a p1_acts_n p1_acts_c), (Value.int IntKind.i64 p2_n)]) w (retK Try.prog Try.f5.results.toList R) =
(Call Try.prog 7 [Value.int IntKind.i64 p0_most] w fun e w' =>
  ∃ p n,
    e = Ending.returned (Value.tuple #[Value.pointer p, Value.int IntKind.i64 n]) ∧
      Call Try.prog 14 [Value.int IntKind.i64 p0_most] w' fun e w' =>
        ∃ p_1 n_1,
          e = Ending.returned (Value.tuple #[Value.pointer p_1, Value.int IntKind.i64 n_1]) ∧
            ((n != n_1) = false →
                ((!Option.isNone p == Option.isNone p_1) = true → R (Ending.returned (Value.bool false)) w') ∧
                  ((!Option.isNone p == Option.isNone p_1) = false →
                    (Option.isNone p_1 = true →
                        Call Try.prog 8 [] w' fun e w' =>
                          ∃ b, e = Ending.returned (Value.bool b) ∧ R (Ending.returned (Value.bool b)) w') ∧
                      (Option.isNone p_1 = false →
                        Cut
                          (WP Try.prog 175 (Code.loop c5_1)
                            (e5_1 p0_most p1_acts_a p1_acts_n p1_acts_c p2_n p p_1 (0 : Int)) w' (k5_1 R))))) ∧
              ((n != n_1) = true → R (Ending.returned (Value.bool false)) w')) := by kernel_rfl
theorem t5_0  (w : World) (R : Ending → World → Prop) : den Try.prog M5 c5_0 (e5_0 ) w (k5_0 R) =
(Call Try.prog 8 [] w fun e w' =>
  ∃ b, e = Ending.returned (Value.bool b) ∧ R (Ending.returned (Value.bool b)) w') := by kernel_rfl
theorem t5_1 (p0_most : Int) (p1_acts_a : Option Addr) (p1_acts_n : Nat) (p1_acts_c : Nat) (p2_n : Int) (p7_q : Option Addr) (p9_r : Option Addr) (p11_i : Int) (w : World) (B5_1 : Env → World → Prop) (R : Ending → World → Prop) : den Try.prog M5 c5_1 (e5_1 p0_most p1_acts_a p1_acts_n p1_acts_c p2_n p7_q p9_r p11_i) w (loopK B5_1 (k5_1 R)) =
((decide (p11_i < (↑p1_acts_n : Int)) = true →
    (decide (p11_i < (200 : Int)) = true →
        ((0 : Int) ≤ p11_i ∧ p11_i < (↑p1_acts_n : Int)) ∧
          ∃ a,
            p1_acts_a = some a ∧
              ∃ n,
                World.cell? w (Addr.add (Addr.add a (Int.toNat p11_i * 2)) 0) =
                    some (Value.int IntKind.i64 n) ∧
                  (4 : Int) ≠ (0 : Int) ∧
                    ((Int.tmod n (4 : Int) == (0 : Int)) = true →
                        ∀ (w' : World),
                          World.heap w' = World.heap w →
                            World.os w' = World.os w →
                              World.tape w' = World.tape w →
                                World.output w' = World.output w →
                                  ((0 : Int) ≤ p11_i ∧ p11_i < (↑p1_acts_n : Int)) ∧
                                    ∃ a,
                                      p1_acts_a = some a ∧
                                        ∃ n,
                                          World.cell? w'
                                                (Addr.add (Addr.add a (Int.toNat p11_i * 2)) 1) =
                                              some (Value.int IntKind.i64 n) ∧
                                            ((0 : Int) ≤ p11_i ∧ p11_i < (↑p1_acts_n : Int)) ∧
                                              ∃ a,
                                                p1_acts_a = some a ∧
                                                  ∃ n_1,
                                                    World.cell? w'
                                                          (Addr.add (Addr.add a (Int.toNat p11_i * 2))
                                                            1) =
                                                        some (Value.int IntKind.i64 n_1) ∧
                                                      Call Try.prog 9
                                                        [Value.pointer p7_q, Value.int IntKind.i64 n] w' fun e w' =>
                                                        ∃ n,
                                                          e = Ending.returned (Value.int IntKind.i64 n) ∧
                                                            World.cell? w'
                                                                  (Addr.add (Addr.add a (Int.toNat p11_i * 2))
                                                                    1) =
                                                                some (Value.int IntKind.i64 n_1) ∧
                                                              Call Try.prog 15
                                                                [Value.pointer p9_r, Value.int IntKind.i64 n_1] w'
                                                                fun e w' =>
                                                                ∃ n_2,
                                                                  e = Ending.returned (Value.int IntKind.i64 n_2) ∧
                                                                    ((n != n_2) = true →
                                                                        R (Ending.returned (Value.bool false)) w') ∧
                                                                      ((n != n_2) = false →
                                                                        CutD Try.prog M5 c5_3
                                                                          (e5_3 p0_most p1_acts_a p1_acts_n
                                                                            p1_acts_c p2_n p7_q p9_r p11_i)
                                                                          w' (k5_3 B5_1 R))) ∧
                      ((Int.tmod n (4 : Int) == (0 : Int)) = false →
                        ((Int.tmod n (4 : Int) == (1 : Int)) = true →
                            Call Try.prog 10 [Value.pointer p7_q] w fun e w' =>
                              ∃ n n_1,
                                e =
                                    Ending.returned
                                      (Value.tuple #[Value.int IntKind.i64 n, Value.int IntKind.i64 n_1]) ∧
                                  Call Try.prog 16 [Value.pointer p9_r] w' fun e w' =>
                                    ∃ n_2 n_3,
                                      e =
                                          Ending.returned
                                            (Value.tuple #[Value.int IntKind.i64 n_2, Value.int IntKind.i64 n_3]) ∧
                                        ((n != n_2) = false →
                                            ((n_1 != n_3) = true → R (Ending.returned (Value.bool false)) w') ∧
                                              ((n_1 != n_3) = false →
                                                CutD Try.prog M5 c5_3
                                                  (e5_3 p0_most p1_acts_a p1_acts_n p1_acts_c p2_n p7_q p9_r
                                                    p11_i)
                                                  w' (k5_3 B5_1 R))) ∧
                                          ((n != n_2) = true → R (Ending.returned (Value.bool false)) w')) ∧
                          ((Int.tmod n (4 : Int) == (1 : Int)) = false →
                            ((Int.tmod n (4 : Int) == (2 : Int)) = true →
                                ∀ (w' : World),
                                  World.heap w' = World.heap w →
                                    World.os w' = World.os w →
                                      World.tape w' = World.tape w →
                                        World.output w' = World.output w →
                                          ((0 : Int) ≤ p11_i ∧ p11_i < (↑p1_acts_n : Int)) ∧
                                            ∃ a,
                                              p1_acts_a = some a ∧
                                                ∃ n,
                                                  World.cell? w'
                                                        (Addr.add (Addr.add a (Int.toNat p11_i * 2))
                                                          1) =
                                                      some (Value.int IntKind.i64 n) ∧
                                                    ((0 : Int) ≤ p11_i ∧ p11_i < (↑p1_acts_n : Int)) ∧
                                                      ∃ a,
                                                        p1_acts_a = some a ∧
                                                          ∃ n_1,
                                                            World.cell? w'
                                                                  (Addr.add (Addr.add a (Int.toNat p11_i * 2))
                                                                    1) =
                                                                some (Value.int IntKind.i64 n_1) ∧
                                                              Call Try.prog 17
                                                                [Value.pointer p7_q, Value.int IntKind.i64 n] w'
                                                                fun e w' =>
                                                                ∃ n,
                                                                  e = Ending.returned (Value.int IntKind.i64 n) ∧
                                                                    World.cell? w'
                                                                          (Addr.add
                                                                            (Addr.add a (Int.toNat p11_i * 2))
                                                                            1) =
                                                                        some (Value.int IntKind.i64 n_1) ∧
                                                                      Call Try.prog 18
                                                                        [Value.pointer p9_r, Value.int IntKind.i64 n_1]
                                                                        w' fun e w' =>
                                                                        ∃ n_2,
                                                                          e =
                                                                              Ending.returned
                                                                                (Value.int IntKind.i64 n_2) ∧
                                                                            ((n != n_2) = true →
                                                                                R (Ending.returned (Value.bool false))
                                                                                  w') ∧
                                                                              ((n != n_2) = false →
                                                                                CutD Try.prog M5 c5_3
                                                                                  (e5_3 p0_most p1_acts_a p1_acts_n
                                                                                    p1_acts_c p2_n p7_q p9_r p11_i)
                                                                                  w' (k5_3 B5_1 R))) ∧
                              ((Int.tmod n (4 : Int) == (2 : Int)) = false →
                                Call Try.prog 12 [Value.pointer p7_q] w fun e w' =>
                                  ∃ n,
                                    e = Ending.returned (Value.int IntKind.i64 n) ∧
                                      Call Try.prog 19 [Value.pointer p9_r] w' fun e w' =>
                                        ∃ n_1,
                                          e = Ending.returned (Value.int IntKind.i64 n_1) ∧
                                            ((n != n_1) = true → R (Ending.returned (Value.bool false)) w') ∧
                                              ((n != n_1) = false →
                                                CutD Try.prog M5 c5_3
                                                  (e5_3 p0_most p1_acts_a p1_acts_n p1_acts_c p2_n p7_q p9_r
                                                    p11_i)
                                                  w' (k5_3 B5_1 R)))))) ∧
      (decide (p11_i < (200 : Int)) = false → CutD Try.prog M5 c5_0 e5_0 w (k5_0 R))) ∧
  (decide (p11_i < (↑p1_acts_n : Int)) = false → CutD Try.prog M5 c5_0 e5_0 w (k5_0 R))) := by kernel_rfl
theorem t5_3 (p0_most : Int) (p1_acts_a : Option Addr) (p1_acts_n : Nat) (p1_acts_c : Nat) (p2_n : Int) (p7_q : Option Addr) (p9_r : Option Addr) (p11_i : Int) (w : World) (B5_1 : Env → World → Prop) (R : Ending → World → Prop) : den Try.prog M5 c5_3 (e5_3 p0_most p1_acts_a p1_acts_n p1_acts_c p2_n p7_q p9_r p11_i) w (k5_3 B5_1 R) =
(Call Try.prog 20 [Value.pointer p7_q] w fun e w' =>
  ∃ n n_1,
    e = Ending.returned (Value.tuple #[Value.int IntKind.i64 n, Value.int IntKind.i64 n_1]) ∧
      Call Try.prog 21 [Value.pointer p9_r] w' fun e w' =>
        ∃ n_2 n_3,
          e = Ending.returned (Value.tuple #[Value.int IntKind.i64 n_2, Value.int IntKind.i64 n_3]) ∧
            ∀ (w'_1 : World),
              World.heap w'_1 = World.heap w' →
                World.os w'_1 = World.os w' →
                  World.tape w'_1 = World.tape w' →
                    World.output w'_1 = World.output w' →
                      ((n != n_2) = false →
                          ((n_1 != n_3) = false →
                              ∃ a,
                                p9_r = some a ∧
                                  ∃ p n c,
                                    World.cell? w'_1 (Addr.add a 1) = some (Value.slice p n c) ∧
                                      Call Try.prog 22 [Value.pointer p7_q] w'_1 fun e w' =>
                                        ∃ n_4,
                                          e = Ending.returned (Value.int IntKind.i64 n_4) ∧
                                            World.cell? w' (Addr.add a 1) = some (Value.slice p n c) ∧
                                              ((n_4 != (↑n : Int)) = false →
                                                  Call Try.prog 23 [Value.pointer p7_q] w' fun e w' =>
                                                    ∃ n,
                                                      e = Ending.returned (Value.int IntKind.i64 n) ∧
                                                        ((n != p0_most) = false →
                                                            ∃ a,
                                                              p9_r = some a ∧
                                                                ∃ p n c,
                                                                  World.cell? w' (Addr.add a 1) =
                                                                      some (Value.slice p n c) ∧
                                                                    Call Try.prog 11 [Value.pointer p7_q] w'
                                                                      fun e w' =>
                                                                      ∃ p_1 n_5 c_1,
                                                                        e = Ending.returned (Value.slice p_1 n_5 c_1) ∧
                                                                          World.cell? w' (Addr.add a 1) =
                                                                              some (Value.slice p n c) ∧
                                                                            Call Try.prog 13
                                                                              [Value.slice p_1 n_5 c_1,
                                                                                Value.slice p n c]
                                                                              w' fun e w' =>
                                                                              ∃ b,
                                                                                e = Ending.returned (Value.bool b) ∧
                                                                                  ((!b) = false →
                                                                                      ∃ a,
                                                                                        p9_r = some a ∧
                                                                                          ∃ p n c,
                                                                                            World.cell? w'
                                                                                                  (Addr.add a
                                                                                                    1) =
                                                                                                some
                                                                                                  (Value.slice p n c) ∧
                                                                                              Call Try.prog 24
                                                                                                [Value.pointer p7_q,
                                                                                                  Value.int IntKind.i64
                                                                                                    p2_n]
                                                                                                w' fun e w' =>
                                                                                                ∃ b,
                                                                                                  e =
                                                                                                      Ending.returned
                                                                                                        (Value.bool b) ∧
                                                                                                    World.cell? w'
                                                                                                          (Addr.add a
                                                                                                            1) =
                                                                                                        some
                                                                                                          (Value.slice p
                                                                                                            n c) ∧
                                                                                                      Call Try.prog
                                                                                                        25
                                                                                                        [Value.slice p n
                                                                                                            c,
                                                                                                          Value.int
                                                                                                            IntKind.i64
                                                                                                            p2_n]
                                                                                                        w' fun e w' =>
                                                                                                        ∃ b_1,
                                                                                                          e =
                                                                                                              Ending.returned
                                                                                                                (Value.bool
                                                                                                                  b_1) ∧
                                                                                                            ((!b ==
                                                                                                                      b_1) =
                                                                                                                  true →
                                                                                                                R
                                                                                                                  (Ending.returned
                                                                                                                    (Value.bool
                                                                                                                      false))
                                                                                                                  w') ∧
                                                                                                              ((!b ==
                                                                                                                      b_1) =
                                                                                                                  false →
                                                                                                                B5_1
                                                                                                                  [((0 :
                                                                                                                        Nat),
                                                                                                                      SV.v
                                                                                                                        (Value.int
                                                                                                                          IntKind.i64
                                                                                                                          p0_most)),
                                                                                                                    ((1 :
                                                                                                                        Nat),
                                                                                                                      SV.v
                                                                                                                        (Value.slice
                                                                                                                          p1_acts_a
                                                                                                                          p1_acts_n
                                                                                                                          p1_acts_c)),
                                                                                                                    ((2 :
                                                                                                                        Nat),
                                                                                                                      SV.v
                                                                                                                        (Value.int
                                                                                                                          IntKind.i64
                                                                                                                          p2_n)),
                                                                                                                    ((7 :
                                                                                                                        Nat),
                                                                                                                      SV.v
                                                                                                                        (Value.pointer
                                                                                                                          p7_q)),
                                                                                                                    ((9 :
                                                                                                                        Nat),
                                                                                                                      SV.v
                                                                                                                        (Value.pointer
                                                                                                                          p9_r)),
                                                                                                                    ((11 :
                                                                                                                        Nat),
                                                                                                                      SV.v
                                                                                                                        (Value.int
                                                                                                                          IntKind.i64
                                                                                                                          (IntKind.wrap
                                                                                                                            IntKind.i64
                                                                                                                            (p11_i +
                                                                                                                              (1 :
                                                                                                                                Int)))))]
                                                                                                                  w')) ∧
                                                                                    ((!b) = true →
                                                                                      R
                                                                                        (Ending.returned
                                                                                          (Value.bool false))
                                                                                        w')) ∧
                                                          ((n != p0_most) = true →
                                                            R (Ending.returned (Value.bool false)) w')) ∧
                                                ((n_4 != (↑n : Int)) = true →
                                                  R (Ending.returned (Value.bool false)) w')) ∧
                            ((n_1 != n_3) = true → R (Ending.returned (Value.bool false)) w'_1)) ∧
                        ((n != n_2) = true → R (Ending.returned (Value.bool false)) w'_1)) := by kernel_rfl
/-! davit/davitlaw03.FifoNil -/
def M6 : Mt := { N := 66, keep := [(0, [0]), (1, [0, 3]), (2, [0, 3, 5]), (3, [0, 3, 5, 7]), (4, [2])], ords := [], bk := [], cuts := [], lk := [] }
noncomputable def c6 : Code := bodyOf Try.f6
theorem b6 : Try.f6.body = some c6 := by kernel_rfl
theorem n6 : Try.f6.ntmps = M6.N := by kernel_rfl
theorem u6 {p0_n : Int} {w : World} {R : Ending → World → Prop} (h : den Try.prog M6 c6 (argE 0 [(Value.int IntKind.i64 p0_n)]) w (retK Try.prog Try.f6.results.toList R)) : Calls Try.prog 6 #[(Value.int IntKind.i64 p0_n)] w R := calls_den okProg Try.func6 b6 n6 (Nat.le_of_ble_eq_true rfl) h
theorem t6 (p0_n : Int) (w : World) (R : Ending → World → Prop) : den Try.prog M6 c6 (argE 0 [(Value.int IntKind.i64 p0_n)]) w (retK Try.prog Try.f6.results.toList R) =
(Call Try.prog 10 [Value.pointer none] w fun e w' =>
  ∃ n n_1,
    e = Ending.returned (Value.tuple #[Value.int IntKind.i64 n, Value.int IntKind.i64 n_1]) ∧
      Call Try.prog 20 [Value.pointer none] w' fun e w' =>
        ∃ n n_2,
          e = Ending.returned (Value.tuple #[Value.int IntKind.i64 n, Value.int IntKind.i64 n_2]) ∧
            Call Try.prog 9 [Value.pointer none, Value.int IntKind.i64 p0_n] w' fun e w' =>
              ∃ n,
                e = Ending.returned (Value.int IntKind.i64 n) ∧
                  ((n == (1 : Int)) = true →
                      ((n_1 == (1 : Int)) = true →
                          ((n_2 == (1 : Int)) = true →
                              Call Try.prog 17 [Value.pointer none, Value.int IntKind.i64 p0_n] w' fun e w' =>
                                ∃ n,
                                  e = Ending.returned (Value.int IntKind.i64 n) ∧
                                    ((n == (1 : Int)) = true →
                                        Call Try.prog 12 [Value.pointer none] w' fun e w' =>
                                          ∃ n,
                                            e = Ending.returned (Value.int IntKind.i64 n) ∧
                                              ((n == (1 : Int)) = true →
                                                  Call Try.prog 24
                                                    [Value.pointer none, Value.int IntKind.i64 p0_n] w' fun e w' =>
                                                    ∃ b,
                                                      e = Ending.returned (Value.bool b) ∧
                                                        ((!b) = true →
                                                            Call Try.prog 22 [Value.pointer none] w' fun e w' =>
                                                              ∃ n,
                                                                e = Ending.returned (Value.int IntKind.i64 n) ∧
                                                                  ((n == (0 : Int)) = true →
                                                                      Call Try.prog 23 [Value.pointer none] w'
                                                                        fun e w' =>
                                                                        ∃ n,
                                                                          e =
                                                                              Ending.returned
                                                                                (Value.int IntKind.i64 n) ∧
                                                                            ((n == (0 : Int)) = true →
                                                                                Call Try.prog 11
                                                                                  [Value.pointer none] w' fun e w' =>
                                                                                  ∃ p n c,
                                                                                    e =
                                                                                        Ending.returned
                                                                                          (Value.slice p n c) ∧
                                                                                      (((↑n : Int) == (0 : Int)) =
                                                                                            true →
                                                                                          Call Try.prog 8 [] w'
                                                                                            fun e w' =>
                                                                                            ∃ b,
                                                                                              e =
                                                                                                  Ending.returned
                                                                                                    (Value.bool b) ∧
                                                                                                R
                                                                                                  (Ending.returned
                                                                                                    (Value.bool b))
                                                                                                  w') ∧
                                                                                        (((↑n : Int) == (0 : Int)) =
                                                                                            false →
                                                                                          R
                                                                                            (Ending.returned
                                                                                              (Value.bool false))
                                                                                            w')) ∧
                                                                              ((n == (0 : Int)) = false →
                                                                                R (Ending.returned (Value.bool false))
                                                                                  w')) ∧
                                                                    ((n == (0 : Int)) = false →
                                                                      R (Ending.returned (Value.bool false)) w')) ∧
                                                          ((!b) = false → R (Ending.returned (Value.bool false)) w')) ∧
                                                ((n == (1 : Int)) = false →
                                                  R (Ending.returned (Value.bool false)) w')) ∧
                                      ((n == (1 : Int)) = false → R (Ending.returned (Value.bool false)) w')) ∧
                            ((n_2 == (1 : Int)) = false → R (Ending.returned (Value.bool false)) w')) ∧
                        ((n_1 == (1 : Int)) = false → R (Ending.returned (Value.bool false)) w')) ∧
                    ((n == (1 : Int)) = false → R (Ending.returned (Value.bool false)) w')) := by kernel_rfl
/-! davit/fifo.New -/
def M7 : Mt := { N := 14, keep := [(0, [0]), (1, [0, 9]), (2, [2, 3]), (3, [2, 3])], ords := [], bk := [], cuts := [], lk := [] }
noncomputable def c7 : Code := bodyOf Try.f7
theorem b7 : Try.f7.body = some c7 := by kernel_rfl
theorem n7 : Try.f7.ntmps = M7.N := by kernel_rfl
theorem u7 {p0_most : Int} {w : World} {R : Ending → World → Prop} (h : den Try.prog M7 c7 (argE 0 [(Value.int IntKind.i64 p0_most)]) w (retK Try.prog Try.f7.results.toList R)) : Calls Try.prog 7 #[(Value.int IntKind.i64 p0_most)] w R := calls_den okProg Try.func7 b7 n7 (Nat.le_of_ble_eq_true rfl) h
theorem t7 (p0_most : Int) (w : World) (R : Ending → World → Prop) : den Try.prog M7 c7 (argE 0 [(Value.int IntKind.i64 p0_most)]) w (retK Try.prog Try.f7.results.toList R) =
((decide (p0_most < (1 : Int)) = false →
    (decide (p0_most > (1024 : Int)) = true →
        R (Ending.returned (Value.tuple #[Value.pointer none, Value.int IntKind.i64 2])) w) ∧
      (decide (p0_most > (1024 : Int)) = false →
        ∃ p n c w',
          Sem.run Try.prog
                (Instr.makeSlice 22 (Value.int IntKind.i64 p0_most) (Value.int IntKind.i64 p0_most)) w =
              Result.ok (Value.slice p n c) w' ∧
            New w' [Value.slice p n c, Value.int IntKind.i64 0, Value.int IntKind.i64 0] 48
              fun p w' =>
              R (Ending.returned (Value.tuple #[Value.pointer (some p), Value.int IntKind.i64 0])) w')) ∧
  (decide (p0_most < (1 : Int)) = true →
    R (Ending.returned (Value.tuple #[Value.pointer none, Value.int IntKind.i64 2])) w)) := by kernel_rfl
/-! davit/davitlaw03.known -/
def M8 : Mt := { N := 45, keep := [(0, []), (1, [1, 2]), (2, [1, 16]), (3, [0]), (4, [1, 3]), (5, [1, 3, 4]), (6, [1, 3, 4, 5]), (7, [1, 3, 4, 5, 6]), (8, [0])], ords := [], bk := [], cuts := [], lk := [] }
noncomputable def c8 : Code := bodyOf Try.f8
theorem b8 : Try.f8.body = some c8 := by kernel_rfl
theorem n8 : Try.f8.ntmps = M8.N := by kernel_rfl
theorem u8  {w : World} {R : Ending → World → Prop} (h : den Try.prog M8 c8 (argE 0 []) w (retK Try.prog Try.f8.results.toList R)) : Calls Try.prog 8 #[] w R := calls_den okProg Try.func8 b8 n8 (Nat.le_of_ble_eq_true rfl) h
theorem t8  (w : World) (R : Ending → World → Prop) : den Try.prog M8 c8 (argE 0 []) w (retK Try.prog Try.f8.results.toList R) =
(Call Try.prog 7 [Value.int IntKind.i64 2] w fun e w' =>
  ∃ p n,
    e = Ending.returned (Value.tuple #[Value.pointer p, Value.int IntKind.i64 n]) ∧
      ((n != (0 : Int)) = false →
          (Option.isNone p = true → R (Ending.returned (Value.bool false)) w') ∧
            (Option.isNone p = false →
              Call Try.prog 9 [Value.pointer p, Value.int IntKind.i64 5] w' fun e w' =>
                ∃ n,
                  e = Ending.returned (Value.int IntKind.i64 n) ∧
                    Call Try.prog 9 [Value.pointer p, Value.int IntKind.i64 7] w' fun e w' =>
                      ∃ n_1,
                        e = Ending.returned (Value.int IntKind.i64 n_1) ∧
                          Call Try.prog 9 [Value.pointer p, Value.int IntKind.i64 9] w' fun e w' =>
                            ∃ n_2,
                              e = Ending.returned (Value.int IntKind.i64 n_2) ∧
                                Call Try.prog 12 [Value.pointer p] w' fun e w' =>
                                  ∃ n_3,
                                    e = Ending.returned (Value.int IntKind.i64 n_3) ∧
                                      ((n == (0 : Int)) = true →
                                          ((n_1 == (0 : Int)) = true →
                                              ((n_2 == (5 : Int)) = true →
                                                  ((n_3 == (0 : Int)) = true →
                                                      Call Try.prog 11 [Value.pointer p] w' fun e w' =>
                                                        ∃ p n c,
                                                          e = Ending.returned (Value.slice p n c) ∧
                                                            New w'
                                                              [Value.int IntKind.i64 7,
                                                                Value.int IntKind.i64 5]
                                                              3 fun p_1 w' =>
                                                              Call Try.prog 13
                                                                [Value.slice p n c,
                                                                  Value.slice (some p_1) 2 2]
                                                                w' fun e w' =>
                                                                ∃ b,
                                                                  e = Ending.returned (Value.bool b) ∧
                                                                    R (Ending.returned (Value.bool b)) w') ∧
                                                    ((n_3 == (0 : Int)) = false →
                                                      R (Ending.returned (Value.bool false)) w')) ∧
                                                ((n_2 == (5 : Int)) = false →
                                                  R (Ending.returned (Value.bool false)) w')) ∧
                                            ((n_1 == (0 : Int)) = false → R (Ending.returned (Value.bool false)) w')) ∧
                                        ((n == (0 : Int)) = false → R (Ending.returned (Value.bool false)) w'))) ∧
        ((n != (0 : Int)) = true → R (Ending.returned (Value.bool false)) w')) := by kernel_rfl
/-! (*davit/fifo.Queue).Push -/
def M9 : Mt := { N := 42, keep := [(0, [0, 1]), (1, [0, 1, 5]), (2, [4]), (3, [0, 1, 8]), (4, [4]), (5, [0, 1, 12]), (6, [4]), (7, [0]), (8, []), (9, [4])], ords := [(5, [0, 1, 2, 3, 4, 5, 6, 7, 8, 9, 10]), (7, [0, 1, 2, 3, 4, 5, 6, 7, 8, 10, 9, 11, 12])], bk := [(0, [0, 1])], cuts := [], lk := [] }
noncomputable def c9 : Code := bodyOf Try.f9
theorem b9 : Try.f9.body = some c9 := by kernel_rfl
theorem n9 : Try.f9.ntmps = M9.N := by kernel_rfl
theorem u9 {p0_q : Option Addr} {p1_n : Int} {w : World} {R : Ending → World → Prop} (h : den Try.prog M9 c9 (argE 0 [(Value.pointer p0_q), (Value.int IntKind.i64 p1_n)]) w (retK Try.prog Try.f9.results.toList R)) : Calls Try.prog 9 #[(Value.pointer p0_q), (Value.int IntKind.i64 p1_n)] w R := calls_den okProg Try.func9 b9 n9 (Nat.le_of_ble_eq_true rfl) h
theorem t9 (p0_q : Option Addr) (p1_n : Int) (w : World) (R : Ending → World → Prop) : den Try.prog M9 c9 (argE 0 [(Value.pointer p0_q), (Value.int IntKind.i64 p1_n)]) w (retK Try.prog Try.f9.results.toList R) =
((Option.isNone p0_q = true → R (Ending.returned (Value.int IntKind.i64 1)) w) ∧
  (Option.isNone p0_q = false →
    Call Try.prog 24 [Value.pointer p0_q, Value.int IntKind.i64 p1_n] w fun e w' =>
      ∃ b,
        e = Ending.returned (Value.bool b) ∧
          (b = true → R (Ending.returned (Value.int IntKind.i64 6)) w') ∧
            (b = false →
              ∀ (w'_1 : World),
                World.heap w'_1 = World.heap w' →
                  World.os w'_1 = World.os w' →
                    World.tape w'_1 = World.tape w' →
                      World.output w'_1 = World.output w' →
                        ∃ a,
                          p0_q = some a ∧
                            ∃ n,
                              World.cell? w'_1 (Addr.add a 2) = some (Value.int IntKind.i64 n) ∧
                                ∃ a,
                                  p0_q = some a ∧
                                    ∃ p n_1 c,
                                      World.cell? w'_1 (Addr.add a 0) = some (Value.slice p n_1 c) ∧
                                        ((n == (↑n_1 : Int)) = true →
                                            R (Ending.returned (Value.int IntKind.i64 5)) w'_1) ∧
                                          ((n == (↑n_1 : Int)) = false →
                                            ∀ (w' : World),
                                              World.heap w' = World.heap w'_1 →
                                                World.os w' = World.os w'_1 →
                                                  World.tape w' = World.tape w'_1 →
                                                    World.output w' = World.output w'_1 →
                                                      ∃ a,
                                                        p0_q = some a ∧
                                                          ∃ p n c,
                                                            World.cell? w' (Addr.add a 0) =
                                                                some (Value.slice p n c) ∧
                                                              ∃ a_1,
                                                                p0_q = some a_1 ∧
                                                                  ∃ n_2,
                                                                    World.cell? w' (Addr.add a_1 2) =
                                                                        some (Value.int IntKind.i64 n_2) ∧
                                                                      Call Try.prog 26
                                                                        [Value.pointer p0_q, Value.int IntKind.i64 n_2]
                                                                        w' fun e w' =>
                                                                        ∃ n_3,
                                                                          e =
                                                                              Ending.returned
                                                                                (Value.int IntKind.i64 n_3) ∧
                                                                            World.cell? w' (Addr.add a 0) =
                                                                                some (Value.slice p n c) ∧
                                                                              ((0 : Int) ≤ n_3 ∧ n_3 < (↑n : Int)) ∧
                                                                                ∃ a,
                                                                                  p = some a ∧
                                                                                    Wr w'
                                                                                      (Addr.add a
                                                                                        (Int.toNat n_3 * 1))
                                                                                      [Value.int IntKind.i64 p1_n]
                                                                                      fun w' =>
                                                                                      ∃ a,
                                                                                        p0_q = some a ∧
                                                                                          ∃ n,
                                                                                            World.cell? w'
                                                                                                  (Addr.add a
                                                                                                    2) =
                                                                                                some
                                                                                                  (Value.int IntKind.i64
                                                                                                    n) ∧
                                                                                              ∃ a,
                                                                                                p0_q = some a ∧
                                                                                                  Wr w'
                                                                                                    (Addr.add a
                                                                                                      2)
                                                                                                    [Value.int
                                                                                                        IntKind.i64
                                                                                                        (IntKind.wrap
                                                                                                          IntKind.i64
                                                                                                          (n +
                                                                                                            (1 : Int)))]
                                                                                                    fun w' =>
                                                                                                    R
                                                                                                      (Ending.returned
                                                                                                        (Value.int
                                                                                                          IntKind.i64
                                                                                                          (0 : Int)))
                                                                                                      w')))) := by kernel_rfl
/-! (*davit/fifo.Queue).Pop -/
def M10 : Mt := { N := 27, keep := [(0, [0]), (1, [0, 4, 5]), (2, [0, 4, 5, 12]), (3, [0, 4, 5]), (4, [4, 5]), (5, [2, 3])], ords := [], bk := [], cuts := [], lk := [] }
noncomputable def c10 : Code := bodyOf Try.f10
theorem b10 : Try.f10.body = some c10 := by kernel_rfl
theorem n10 : Try.f10.ntmps = M10.N := by kernel_rfl
theorem u10 {p0_q : Option Addr} {w : World} {R : Ending → World → Prop} (h : den Try.prog M10 c10 (argE 0 [(Value.pointer p0_q)]) w (retK Try.prog Try.f10.results.toList R)) : Calls Try.prog 10 #[(Value.pointer p0_q)] w R := calls_den okProg Try.func10 b10 n10 (Nat.le_of_ble_eq_true rfl) h
theorem t10 (p0_q : Option Addr) (w : World) (R : Ending → World → Prop) : den Try.prog M10 c10 (argE 0 [(Value.pointer p0_q)]) w (retK Try.prog Try.f10.results.toList R) =
(Call Try.prog 20 [Value.pointer p0_q] w fun e w' =>
  ∃ n n_1,
    e = Ending.returned (Value.tuple #[Value.int IntKind.i64 n, Value.int IntKind.i64 n_1]) ∧
      ((n_1 == (0 : Int)) = true →
          Call Try.prog 26 [Value.pointer p0_q, Value.int IntKind.i64 1] w' fun e w' =>
            ∃ n_2,
              e = Ending.returned (Value.int IntKind.i64 n_2) ∧
                ∃ a,
                  p0_q = some a ∧
                    Wr w' (Addr.add a 1) [Value.int IntKind.i64 n_2] fun w' =>
                      ∃ a,
                        p0_q = some a ∧
                          ∃ n_3,
                            World.cell? w' (Addr.add a 2) = some (Value.int IntKind.i64 n_3) ∧
                              ∃ a,
                                p0_q = some a ∧
                                  Wr w' (Addr.add a 2)
                                    [Value.int IntKind.i64 (IntKind.wrap IntKind.i64 (n_3 - (1 : Int)))] fun w' =>
                                    R
                                      (Ending.returned
                                        (Value.tuple #[Value.int IntKind.i64 n, Value.int IntKind.i64 n_1]))
                                      w') ∧
        ((n_1 == (0 : Int)) = false →
          R (Ending.returned (Value.tuple #[Value.int IntKind.i64 n, Value.int IntKind.i64 n_1])) w')) := by kernel_rfl
/-! (*davit/fifo.Queue).List -/
def M11 : Mt := { N := 39, keep := [(0, [0]), (1, [0, 13]), (2, [2]), (3, [0, 3]), (4, [0, 3, 4]), (5, [3]), (6, [2])], ords := [(4, [0, 1, 2, 3, 4, 5, 6, 7, 8, 9, 10, 11]), (5, [0, 1, 2, 3, 4, 5, 6, 7])], bk := [], cuts := [], lk := [] }
noncomputable def c11 : Code := bodyOf Try.f11
theorem b11 : Try.f11.body = some c11 := by kernel_rfl
theorem n11 : Try.f11.ntmps = M11.N := by kernel_rfl
theorem u11 {p0_q : Option Addr} {w : World} {R : Ending → World → Prop} (h : den Try.prog M11 c11 (argE 0 [(Value.pointer p0_q)]) w (retK Try.prog Try.f11.results.toList R)) : Calls Try.prog 11 #[(Value.pointer p0_q)] w R := calls_den okProg Try.func11 b11 n11 (Nat.le_of_ble_eq_true rfl) h
theorem t11 (p0_q : Option Addr) (w : World) (R : Ending → World → Prop) : den Try.prog M11 c11 (argE 0 [(Value.pointer p0_q)]) w (retK Try.prog Try.f11.results.toList R) =
((Option.isNone p0_q = false →
    ∃ a,
      p0_q = some a ∧
        ∃ n,
          World.cell? w (Addr.add a 2) = some (Value.int IntKind.i64 n) ∧
            ((n == (0 : Int)) = true → R (Ending.returned (Value.slice none 0 0)) w) ∧
              ((n == (0 : Int)) = false →
                ∃ a,
                  p0_q = some a ∧
                    ∃ n,
                      World.cell? w (Addr.add a 2) = some (Value.int IntKind.i64 n) ∧
                        ∃ p n_1 c w',
                          Sem.run Try.prog
                                (Instr.makeSlice 22 (Value.int IntKind.i64 n) (Value.int IntKind.i64 n)) w =
                              Result.ok (Value.slice p n_1 c) w' ∧
                            ∀ (w'_1 : World),
                              World.heap w'_1 = World.heap w' →
                                World.os w'_1 = World.os w' →
                                  World.tape w'_1 = World.tape w' →
                                    World.output w'_1 = World.output w' →
                                      ∃ a,
                                        p0_q = some a ∧
                                          ∃ p_1 n c_1,
                                            World.cell? w'_1 (Addr.add a 0) = some (Value.slice p_1 n c_1) ∧
                                              ∃ a,
                                                p0_q = some a ∧
                                                  ∃ n_2,
                                                    World.cell? w'_1 (Addr.add a 1) =
                                                        some (Value.int IntKind.i64 n_2) ∧
                                                      ((0 : Int) ≤ n_2 ∧ n_2 ≤ (↑n : Int)) ∧
                                                        ∃ n_3 w',
                                                          Sem.run Try.prog
                                                                (Builtin.copy_ #[22, 22] 3
                                                                  #[Value.slice p n_1 c,
                                                                    Value.slice (subA p_1 c_1 (Int.toNat n_2) 1)
                                                                      (n - Int.toNat n_2) (c_1 - Int.toNat n_2)])
                                                                w'_1 =
                                                              Result.ok (Value.int IntKind.i64 n_3) w' ∧
                                                            ∀ (w'_2 : World),
                                                              World.heap w'_2 = World.heap w' →
                                                                World.os w'_2 = World.os w' →
                                                                  World.tape w'_2 = World.tape w' →
                                                                    World.output w'_2 = World.output w' →
                                                                      ((0 : Int) ≤ n_3 ∧ n_3 ≤ (↑n_1 : Int)) ∧
                                                                        ∃ a,
                                                                          p0_q = some a ∧
                                                                            ∃ p_2 n c_2,
                                                                              World.cell? w'_2 (Addr.add a 0) =
                                                                                  some (Value.slice p_2 n c_2) ∧
                                                                                ∃ n_4 w',
                                                                                  Sem.run Try.prog
                                                                                        (Builtin.copy_
                                                                                          #[22, 22]
                                                                                          3
                                                                                          #[Value.slice
                                                                                              (subA p c (Int.toNat n_3)
                                                                                                1)
                                                                                              (n_1 - Int.toNat n_3)
                                                                                              (c - Int.toNat n_3),
                                                                                            Value.slice p_2 n c_2])
                                                                                        w'_2 =
                                                                                      Result.ok
                                                                                        (Value.int IntKind.i64 n_4) w' ∧
                                                                                    R
                                                                                      (Ending.returned
                                                                                        (Value.slice p n_1 c))
                                                                                      w')) ∧
  (Option.isNone p0_q = true → R (Ending.returned (Value.slice none 0 0)) w)) := by kernel_rfl
/-! (*davit/fifo.Queue).Turn -/
def M12 : Mt := { N := 16, keep := [(0, [0]), (1, [0, 3, 4]), (2, [0, 3, 4, 11]), (3, [2]), (4, [2])], ords := [], bk := [], cuts := [], lk := [] }
noncomputable def c12 : Code := bodyOf Try.f12
theorem b12 : Try.f12.body = some c12 := by kernel_rfl
theorem n12 : Try.f12.ntmps = M12.N := by kernel_rfl
theorem u12 {p0_q : Option Addr} {w : World} {R : Ending → World → Prop} (h : den Try.prog M12 c12 (argE 0 [(Value.pointer p0_q)]) w (retK Try.prog Try.f12.results.toList R)) : Calls Try.prog 12 #[(Value.pointer p0_q)] w R := calls_den okProg Try.func12 b12 n12 (Nat.le_of_ble_eq_true rfl) h
theorem t12 (p0_q : Option Addr) (w : World) (R : Ending → World → Prop) : den Try.prog M12 c12 (argE 0 [(Value.pointer p0_q)]) w (retK Try.prog Try.f12.results.toList R) =
(Call Try.prog 10 [Value.pointer p0_q] w fun e w' =>
  ∃ n n_1,
    e = Ending.returned (Value.tuple #[Value.int IntKind.i64 n, Value.int IntKind.i64 n_1]) ∧
      ((n_1 != (0 : Int)) = true → R (Ending.returned (Value.int IntKind.i64 n_1)) w') ∧
        ((n_1 != (0 : Int)) = false →
          Call Try.prog 9 [Value.pointer p0_q, Value.int IntKind.i64 n] w' fun e w' =>
            ∃ n, e = Ending.returned (Value.int IntKind.i64 n) ∧ R (Ending.returned (Value.int IntKind.i64 n)) w')) := by kernel_rfl
/-! davit/davitref01.Ints -/
def M13 : Mt := { N := 26, keep := [(0, [0, 1]), (1, [0, 1, 10]), (2, [4]), (3, [0, 1, 5]), (4, [0, 1, 5, 14]), (5, [0, 1, 5]), (6, [0, 1, 5, 25]), (7, [4]), (8, [4])], ords := [(6, [0, 1, 2, 3, 4, 5, 6, 7, 8])], bk := [(0, []), (1, [0, 1, 5])], cuts := [], lk := [(4, [0, 1, 5])] }
noncomputable def c13 : Code := bodyOf Try.f13
noncomputable def c13_0 : Code := c13.sr.sr.sr
noncomputable def c13_1 : Code := c13.sr.sr.sl.sr.sl.sl
def e13_1 (p0_a_a : Option Addr) (p0_a_n : Nat) (p0_a_c : Nat) (p1_b_a : Option Addr) (p1_b_n : Nat) (p1_b_c : Nat) (p5_i : Int) : Env := [(0, SV.v (Value.slice p0_a_a p0_a_n p0_a_c)), (1, SV.v (Value.slice p1_b_a p1_b_n p1_b_c)), (5, SV.v (Value.int IntKind.i64 p5_i))]
def k13_1 (R : Ending → World → Prop) : Cont := blockK 0 [] (seqK (fun E w => cutB (findL M13.cuts (headReg c13_0)) Try.prog M13 c13_0 E w (retK Try.prog Try.f13.results.toList R) fun E => den Try.prog M13 c13_0 E w (retK Try.prog Try.f13.results.toList R)) (retK Try.prog Try.f13.results.toList R))
theorem b13 : Try.f13.body = some c13 := by kernel_rfl
theorem n13 : Try.f13.ntmps = M13.N := by kernel_rfl
theorem u13 {p0_a_a : Option Addr} {p0_a_n : Nat} {p0_a_c : Nat} {p1_b_a : Option Addr} {p1_b_n : Nat} {p1_b_c : Nat} {w : World} {R : Ending → World → Prop} (h : den Try.prog M13 c13 (argE 0 [(Value.slice p0_a_a p0_a_n p0_a_c), (Value.slice p1_b_a p1_b_n p1_b_c)]) w (retK Try.prog Try.f13.results.toList R)) : Calls Try.prog 13 #[(Value.slice p0_a_a p0_a_n p0_a_c), (Value.slice p1_b_a p1_b_n p1_b_c)] w R := calls_den okProg Try.func13 b13 n13 (Nat.le_of_ble_eq_true rfl) h
theorem t13 (p0_a_a : Option Addr) (p0_a_n : Nat) (p0_a_c : Nat) (p1_b_a : Option Addr) (p1_b_n : Nat) (p1_b_c : Nat) (w : World) (R : Ending → World → Prop) : den Try.prog M13 c13 (argE 0 [(Value.slice p0_a_a p0_a_n p0_a_c), (Value.slice p1_b_a p1_b_n p1_b_c)]) w (retK Try.prog Try.f13.results.toList R) =
((((↑p0_a_n : Int) != (↑p1_b_n : Int)) = true → R (Ending.returned (Value.bool false)) w) ∧
  (((↑p0_a_n : Int) != (↑p1_b_n : Int)) = false →
    Cut
      (WP Try.prog 26 (Code.loop c13_1) (e13_1 p0_a_a p0_a_n p0_a_c p1_b_a p1_b_n p1_b_c (0 : Int)) w
        (k13_1 R)))) := by kernel_rfl
theorem t13_1 (p0_a_a : Option Addr) (p0_a_n : Nat) (p0_a_c : Nat) (p1_b_a : Option Addr) (p1_b_n : Nat) (p1_b_c : Nat) (p5_i : Int) (w : World) (B13_1 : Env → World → Prop) (R : Ending → World → Prop) : den Try.prog M13 c13_1 (e13_1 p0_a_a p0_a_n p0_a_c p1_b_a p1_b_n p1_b_c p5_i) w (loopK B13_1 (k13_1 R)) =
((decide (p5_i < (↑p0_a_n : Int)) = true →
    ∀ (w' : World),
      World.heap w' = World.heap w →
        World.os w' = World.os w →
          World.tape w' = World.tape w →
            World.output w' = World.output w →
              ((0 : Int) ≤ p5_i ∧ p5_i < (↑p0_a_n : Int)) ∧
                ∃ a,
                  p0_a_a = some a ∧
                    ∃ n,
                      World.cell? w' (Addr.add a (Int.toNat p5_i * 1)) = some (Value.int IntKind.i64 n) ∧
                        ((0 : Int) ≤ p5_i ∧ p5_i < (↑p1_b_n : Int)) ∧
                          ∃ a,
                            p1_b_a = some a ∧
                              ∃ n_1,
                                World.cell? w' (Addr.add a (Int.toNat p5_i * 1)) =
                                    some (Value.int IntKind.i64 n_1) ∧
                                  ((n != n_1) = true → R (Ending.returned (Value.bool false)) w') ∧
                                    ((n != n_1) = false →
                                      B13_1
                                        [(0, SV.v (Value.slice p0_a_a p0_a_n p0_a_c)),
                                          (1, SV.v (Value.slice p1_b_a p1_b_n p1_b_c)),
                                          (5,
                                            SV.v
                                              (Value.int IntKind.i64 (IntKind.wrap IntKind.i64 (p5_i + (1 : Int)))))]
                                        w')) ∧
  (decide (p5_i < (↑p0_a_n : Int)) = false → R (Ending.returned (Value.bool true)) w)) := by kernel_rfl
/-! davit/davitref03.New -/
def M14 : Mt := { N := 13, keep := [(0, [0]), (1, [0, 9]), (2, [2, 3]), (3, [2, 3])], ords := [], bk := [], cuts := [], lk := [] }
noncomputable def c14 : Code := bodyOf Try.f14
theorem b14 : Try.f14.body = some c14 := by kernel_rfl
theorem n14 : Try.f14.ntmps = M14.N := by kernel_rfl
theorem u14 {p0_most : Int} {w : World} {R : Ending → World → Prop} (h : den Try.prog M14 c14 (argE 0 [(Value.int IntKind.i64 p0_most)]) w (retK Try.prog Try.f14.results.toList R)) : Calls Try.prog 14 #[(Value.int IntKind.i64 p0_most)] w R := calls_den okProg Try.func14 b14 n14 (Nat.le_of_ble_eq_true rfl) h
theorem t14 (p0_most : Int) (w : World) (R : Ending → World → Prop) : den Try.prog M14 c14 (argE 0 [(Value.int IntKind.i64 p0_most)]) w (retK Try.prog Try.f14.results.toList R) =
((decide (p0_most < (1 : Int)) = false →
    (decide (p0_most > (1024 : Int)) = true →
        R (Ending.returned (Value.tuple #[Value.pointer none, Value.int IntKind.i64 2])) w) ∧
      (decide (p0_most > (1024 : Int)) = false →
        New w [Value.int IntKind.i64 p0_most, Value.slice none 0 0] 43 fun p w' =>
          R (Ending.returned (Value.tuple #[Value.pointer (some p), Value.int IntKind.i64 0])) w')) ∧
  (decide (p0_most < (1 : Int)) = true →
    R (Ending.returned (Value.tuple #[Value.pointer none, Value.int IntKind.i64 2])) w)) := by kernel_rfl
/-! (*davit/davitref03.Queue).Push -/
def M15 : Mt := { N := 31, keep := [(0, [0, 1]), (1, [0, 1, 10]), (2, [4]), (3, [0, 1, 20]), (4, [4]), (5, []), (6, [4])], ords := [(3, [0, 1, 2, 3, 4, 5, 6, 7, 8, 9])], bk := [], cuts := [], lk := [] }
noncomputable def c15 : Code := bodyOf Try.f15
theorem b15 : Try.f15.body = some c15 := by kernel_rfl
theorem n15 : Try.f15.ntmps = M15.N := by kernel_rfl
theorem u15 {p0_q : Option Addr} {p1_n : Int} {w : World} {R : Ending → World → Prop} (h : den Try.prog M15 c15 (argE 0 [(Value.pointer p0_q), (Value.int IntKind.i64 p1_n)]) w (retK Try.prog Try.f15.results.toList R)) : Calls Try.prog 15 #[(Value.pointer p0_q), (Value.int IntKind.i64 p1_n)] w R := calls_den okProg Try.func15 b15 n15 (Nat.le_of_ble_eq_true rfl) h
theorem t15 (p0_q : Option Addr) (p1_n : Int) (w : World) (R : Ending → World → Prop) : den Try.prog M15 c15 (argE 0 [(Value.pointer p0_q), (Value.int IntKind.i64 p1_n)]) w (retK Try.prog Try.f15.results.toList R) =
(∃ a,
  p0_q = some a ∧
    ∃ p n c,
      World.cell? w (Addr.add a 1) = some (Value.slice p n c) ∧
        Call Try.prog 25 [Value.slice p n c, Value.int IntKind.i64 p1_n] w fun e w' =>
          ∃ b,
            e = Ending.returned (Value.bool b) ∧
              (b = true → R (Ending.returned (Value.int IntKind.i64 6)) w') ∧
                (b = false →
                  ∀ (w'_1 : World),
                    World.heap w'_1 = World.heap w' →
                      World.os w'_1 = World.os w' →
                        World.tape w'_1 = World.tape w' →
                          World.output w'_1 = World.output w' →
                            ∃ a,
                              p0_q = some a ∧
                                ∃ p n c,
                                  World.cell? w'_1 (Addr.add a 1) = some (Value.slice p n c) ∧
                                    ∃ a,
                                      p0_q = some a ∧
                                        ∃ n_1,
                                          World.cell? w'_1 (Addr.add a 0) = some (Value.int IntKind.i64 n_1) ∧
                                            (decide ((↑n : Int) ≥ n_1) = true →
                                                R (Ending.returned (Value.int IntKind.i64 5)) w'_1) ∧
                                              (decide ((↑n : Int) ≥ n_1) = false →
                                                ∃ a,
                                                  p0_q = some a ∧
                                                    ∃ p n c,
                                                      World.cell? w'_1 (Addr.add a 1) =
                                                          some (Value.slice p n c) ∧
                                                        New w'_1 [Value.int IntKind.i64 p1_n] 3 fun p_1 w' =>
                                                          ∃ p_2 n_2 c_1 w'_2,
                                                            Sem.run Try.prog
                                                                  (Builtin.append_ #[22, 22] 22
                                                                    #[Value.slice p n c,
                                                                      Value.slice (some p_1) 1 1])
                                                                  w' =
                                                                Result.ok (Value.slice p_2 n_2 c_1) w'_2 ∧
                                                              ∃ a,
                                                                p0_q = some a ∧
                                                                  Wr w'_2 (Addr.add a 1)
                                                                    [Value.slice p_2 n_2 c_1] fun w' =>
                                                                    R
                                                                      (Ending.returned
                                                                        (Value.int IntKind.i64 0))
                                                                      w'))) := by kernel_rfl
/-! (*davit/davitref03.Queue).Pop -/
def M16 : Mt := { N := 24, keep := [(0, [0]), (1, [0, 4, 5]), (2, [0, 4, 5, 12]), (3, [4, 5]), (4, [2, 3])], ords := [], bk := [], cuts := [], lk := [] }
noncomputable def c16 : Code := bodyOf Try.f16
theorem b16 : Try.f16.body = some c16 := by kernel_rfl
theorem n16 : Try.f16.ntmps = M16.N := by kernel_rfl
theorem u16 {p0_q : Option Addr} {w : World} {R : Ending → World → Prop} (h : den Try.prog M16 c16 (argE 0 [(Value.pointer p0_q)]) w (retK Try.prog Try.f16.results.toList R)) : Calls Try.prog 16 #[(Value.pointer p0_q)] w R := calls_den okProg Try.func16 b16 n16 (Nat.le_of_ble_eq_true rfl) h
theorem t16 (p0_q : Option Addr) (w : World) (R : Ending → World → Prop) : den Try.prog M16 c16 (argE 0 [(Value.pointer p0_q)]) w (retK Try.prog Try.f16.results.toList R) =
(Call Try.prog 21 [Value.pointer p0_q] w fun e w' =>
  ∃ n n_1,
    e = Ending.returned (Value.tuple #[Value.int IntKind.i64 n, Value.int IntKind.i64 n_1]) ∧
      ((n_1 == (0 : Int)) = true →
          ∃ a,
            p0_q = some a ∧
              ∃ p n_2 c,
                World.cell? w' (Addr.add a 1) = some (Value.slice p n_2 c) ∧
                  Call Try.prog 27 [Value.slice p n_2 c, Value.int IntKind.i64 n] w' fun e w' =>
                    ∃ p n_3 c,
                      e = Ending.returned (Value.slice p n_3 c) ∧
                        ∃ a,
                          p0_q = some a ∧
                            Wr w' (Addr.add a 1) [Value.slice p n_3 c] fun w' =>
                              R (Ending.returned (Value.tuple #[Value.int IntKind.i64 n, Value.int IntKind.i64 n_1]))
                                w') ∧
        ((n_1 == (0 : Int)) = false →
          R (Ending.returned (Value.tuple #[Value.int IntKind.i64 n, Value.int IntKind.i64 n_1])) w')) := by kernel_rfl
/-! (*davit/fifo.Queue).Drop -/
def M17 : Mt := { N := 45, keep := [(0, [0, 1]), (1, [0, 1, 9]), (2, [4]), (3, [0, 1, 5]), (4, [0, 5, 6]), (5, [0, 5, 6, 16]), (6, [4]), (7, [0, 5, 7]), (8, [0, 5, 7, 22]), (9, [0, 5, 7]), (10, [0, 5, 7]), (11, []), (12, [4])], ords := [(10, [0, 1, 2, 3, 4, 5, 7, 8, 9, 10, 11, 6, 12, 13])], bk := [(0, [0]), (1, [0, 5, 7])], cuts := [], lk := [(8, [0, 5, 7])] }
noncomputable def c17 : Code := bodyOf Try.f17
noncomputable def c17_0 : Code := c17.sr.sr.sr.sr.sr.sr
noncomputable def c17_1 : Code := c17.sr.sr.sr.sr.sr.sl.sr.sl.sl
def e17_1 (p0_q : Option Addr) (p5_l_a : Option Addr) (p5_l_n : Nat) (p5_l_c : Nat) (p7_i : Int) : Env := [(0, SV.v (Value.pointer p0_q)), (5, SV.v (Value.slice p5_l_a p5_l_n p5_l_c)), (7, SV.v (Value.int IntKind.i64 p7_i))]
def k17_1 (R : Ending → World → Prop) : Cont := blockK 0 [0] (seqK (fun E w => cutB (findL M17.cuts (headReg c17_0)) Try.prog M17 c17_0 E w (retK Try.prog Try.f17.results.toList R) fun E => den Try.prog M17 c17_0 E w (retK Try.prog Try.f17.results.toList R)) (retK Try.prog Try.f17.results.toList R))
theorem b17 : Try.f17.body = some c17 := by kernel_rfl
theorem n17 : Try.f17.ntmps = M17.N := by kernel_rfl
theorem u17 {p0_q : Option Addr} {p1_n : Int} {w : World} {R : Ending → World → Prop} (h : den Try.prog M17 c17 (argE 0 [(Value.pointer p0_q), (Value.int IntKind.i64 p1_n)]) w (retK Try.prog Try.f17.results.toList R)) : Calls Try.prog 17 #[(Value.pointer p0_q), (Value.int IntKind.i64 p1_n)] w R := calls_den okProg Try.func17 b17 n17 (Nat.le_of_ble_eq_true rfl) h
theorem t17 (p0_q : Option Addr) (p1_n : Int) (w : World) (R : Ending → World → Prop) : den Try.prog M17 c17 (argE 0 [(Value.pointer p0_q), (Value.int IntKind.i64 p1_n)]) w (retK Try.prog Try.f17.results.toList R) =
((Option.isNone p0_q = true → R (Ending.returned (Value.int IntKind.i64 1)) w) ∧
  (Option.isNone p0_q = false →
    Call Try.prog 11 [Value.pointer p0_q] w fun e w' =>
      ∃ p n c,
        e = Ending.returned (Value.slice p n c) ∧
          Call Try.prog 28 [Value.slice p n c, Value.int IntKind.i64 p1_n] w' fun e w' =>
            ∃ n_1,
              e = Ending.returned (Value.int IntKind.i64 n_1) ∧
                (decide (n_1 < (0 : Int)) = true → R (Ending.returned (Value.int IntKind.i64 4)) w') ∧
                  (decide (n_1 < (0 : Int)) = false →
                    Cut (WP Try.prog 45 (Code.loop c17_1) (e17_1 p0_q p n c n_1) w' (k17_1 R))))) := by kernel_rfl
theorem t17_1 (p0_q : Option Addr) (p5_l_a : Option Addr) (p5_l_n : Nat) (p5_l_c : Nat) (p7_i : Int) (w : World) (B17_1 : Env → World → Prop) (R : Ending → World → Prop) : den Try.prog M17 c17_1 (e17_1 p0_q p5_l_a p5_l_n p5_l_c p7_i) w (loopK B17_1 (k17_1 R)) =
((decide (IntKind.wrap IntKind.i64 (p7_i + (1 : Int)) < (↑p5_l_n : Int)) = true →
    ∀ (w' : World),
      World.heap w' = World.heap w →
        World.os w' = World.os w →
          World.tape w' = World.tape w →
            World.output w' = World.output w →
              ∃ a,
                p0_q = some a ∧
                  ∃ p n c,
                    World.cell? w' (Addr.add a 0) = some (Value.slice p n c) ∧
                      ((0 : Int) ≤ IntKind.wrap IntKind.i64 (p7_i + (1 : Int)) ∧
                          IntKind.wrap IntKind.i64 (p7_i + (1 : Int)) < (↑p5_l_n : Int)) ∧
                        ∃ a_1,
                          p5_l_a = some a_1 ∧
                            ∃ n_1,
                              World.cell? w'
                                    (Addr.add a_1
                                      (Int.toNat (IntKind.wrap IntKind.i64 (p7_i + (1 : Int))) * 1)) =
                                  some (Value.int IntKind.i64 n_1) ∧
                                Call Try.prog 26 [Value.pointer p0_q, Value.int IntKind.i64 p7_i] w'
                                  fun e w' =>
                                  ∃ n_2,
                                    e = Ending.returned (Value.int IntKind.i64 n_2) ∧
                                      World.cell? w'
                                            (Addr.add a_1
                                              (Int.toNat (IntKind.wrap IntKind.i64 (p7_i + (1 : Int))) * 1)) =
                                          some (Value.int IntKind.i64 n_1) ∧
                                        World.cell? w' (Addr.add a 0) = some (Value.slice p n c) ∧
                                          ((0 : Int) ≤ n_2 ∧ n_2 < (↑n : Int)) ∧
                                            ∃ a,
                                              p = some a ∧
                                                Wr w' (Addr.add a (Int.toNat n_2 * 1))
                                                  [Value.int IntKind.i64 n_1] fun w' =>
                                                  B17_1
                                                    [(0, SV.v (Value.pointer p0_q)),
                                                      (5, SV.v (Value.slice p5_l_a p5_l_n p5_l_c)),
                                                      (7,
                                                        SV.v
                                                          (Value.int IntKind.i64
                                                            (IntKind.wrap IntKind.i64 (p7_i + (1 : Int)))))]
                                                    w') ∧
  (decide (IntKind.wrap IntKind.i64 (p7_i + (1 : Int)) < (↑p5_l_n : Int)) = false →
    ∃ a,
      p0_q = some a ∧
        ∃ n,
          World.cell? w (Addr.add a 2) = some (Value.int IntKind.i64 n) ∧
            ∃ a,
              p0_q = some a ∧
                Wr w (Addr.add a 2) [Value.int IntKind.i64 (IntKind.wrap IntKind.i64 (n - (1 : Int)))]
                  fun w' => R (Ending.returned (Value.int IntKind.i64 0)) w')) := by kernel_rfl
/-! (*davit/davitref03.Queue).Drop -/
def M18 : Mt := { N := 21, keep := [(0, [0, 1]), (1, [0, 1, 11]), (2, [4]), (3, []), (4, [4])], ords := [], bk := [], cuts := [], lk := [] }
noncomputable def c18 : Code := bodyOf Try.f18
theorem b18 : Try.f18.body = some c18 := by kernel_rfl
theorem n18 : Try.f18.ntmps = M18.N := by kernel_rfl
theorem u18 {p0_q : Option Addr} {p1_n : Int} {w : World} {R : Ending → World → Prop} (h : den Try.prog M18 c18 (argE 0 [(Value.pointer p0_q), (Value.int IntKind.i64 p1_n)]) w (retK Try.prog Try.f18.results.toList R)) : Calls Try.prog 18 #[(Value.pointer p0_q), (Value.int IntKind.i64 p1_n)] w R := calls_den okProg Try.func18 b18 n18 (Nat.le_of_ble_eq_true rfl) h
theorem t18 (p0_q : Option Addr) (p1_n : Int) (w : World) (R : Ending → World → Prop) : den Try.prog M18 c18 (argE 0 [(Value.pointer p0_q), (Value.int IntKind.i64 p1_n)]) w (retK Try.prog Try.f18.results.toList R) =
(∃ a,
  p0_q = some a ∧
    ∃ p n c,
      World.cell? w (Addr.add a 1) = some (Value.slice p n c) ∧
        Call Try.prog 25 [Value.slice p n c, Value.int IntKind.i64 p1_n] w fun e w' =>
          ∃ b,
            e = Ending.returned (Value.bool b) ∧
              ((!b) = true → R (Ending.returned (Value.int IntKind.i64 4)) w') ∧
                ((!b) = false →
                  ∃ a,
                    p0_q = some a ∧
                      ∃ p n c,
                        World.cell? w' (Addr.add a 1) = some (Value.slice p n c) ∧
                          Call Try.prog 27 [Value.slice p n c, Value.int IntKind.i64 p1_n] w' fun e w' =>
                            ∃ p n c,
                              e = Ending.returned (Value.slice p n c) ∧
                                ∃ a,
                                  p0_q = some a ∧
                                    Wr w' (Addr.add a 1) [Value.slice p n c] fun w' =>
                                      R (Ending.returned (Value.int IntKind.i64 0)) w')) := by kernel_rfl
/-! (*davit/davitref03.Queue).Turn -/
def M19 : Mt := { N := 23, keep := [(0, [0]), (1, [0, 3, 4]), (2, [0, 3, 4, 11]), (3, [4]), (4, [2])], ords := [], bk := [], cuts := [], lk := [] }
noncomputable def c19 : Code := bodyOf Try.f19
theorem b19 : Try.f19.body = some c19 := by kernel_rfl
theorem n19 : Try.f19.ntmps = M19.N := by kernel_rfl
theorem u19 {p0_q : Option Addr} {w : World} {R : Ending → World → Prop} (h : den Try.prog M19 c19 (argE 0 [(Value.pointer p0_q)]) w (retK Try.prog Try.f19.results.toList R)) : Calls Try.prog 19 #[(Value.pointer p0_q)] w R := calls_den okProg Try.func19 b19 n19 (Nat.le_of_ble_eq_true rfl) h
theorem t19 (p0_q : Option Addr) (w : World) (R : Ending → World → Prop) : den Try.prog M19 c19 (argE 0 [(Value.pointer p0_q)]) w (retK Try.prog Try.f19.results.toList R) =
(Call Try.prog 16 [Value.pointer p0_q] w fun e w' =>
  ∃ n n_1,
    e = Ending.returned (Value.tuple #[Value.int IntKind.i64 n, Value.int IntKind.i64 n_1]) ∧
      ((n_1 == (0 : Int)) = true →
          ∃ a,
            p0_q = some a ∧
              ∃ p n_2 c,
                World.cell? w' (Addr.add a 1) = some (Value.slice p n_2 c) ∧
                  New w' [Value.int IntKind.i64 n] 3 fun p_1 w' =>
                    ∃ p_2 n c_1 w'_1,
                      Sem.run Try.prog
                            (Builtin.append_ #[22, 22] 22
                              #[Value.slice p n_2 c, Value.slice (some p_1) 1 1])
                            w' =
                          Result.ok (Value.slice p_2 n c_1) w'_1 ∧
                        ∃ a,
                          p0_q = some a ∧
                            Wr w'_1 (Addr.add a 1) [Value.slice p_2 n c_1] fun w' =>
                              R (Ending.returned (Value.int IntKind.i64 n_1)) w') ∧
        ((n_1 == (0 : Int)) = false → R (Ending.returned (Value.int IntKind.i64 n_1)) w')) := by kernel_rfl
/-! (*davit/fifo.Queue).Front -/
def M20 : Mt := { N := 23, keep := [(0, [0]), (1, [0, 4]), (2, [2, 3]), (3, [0, 7]), (4, [2, 3]), (5, [2, 3])], ords := [(5, [0, 1, 2, 3, 4, 5, 6, 7, 8, 9, 10, 11])], bk := [(0, [0])], cuts := [], lk := [] }
noncomputable def c20 : Code := bodyOf Try.f20
theorem b20 : Try.f20.body = some c20 := by kernel_rfl
theorem n20 : Try.f20.ntmps = M20.N := by kernel_rfl
theorem u20 {p0_q : Option Addr} {w : World} {R : Ending → World → Prop} (h : den Try.prog M20 c20 (argE 0 [(Value.pointer p0_q)]) w (retK Try.prog Try.f20.results.toList R)) : Calls Try.prog 20 #[(Value.pointer p0_q)] w R := calls_den okProg Try.func20 b20 n20 (Nat.le_of_ble_eq_true rfl) h
theorem t20 (p0_q : Option Addr) (w : World) (R : Ending → World → Prop) : den Try.prog M20 c20 (argE 0 [(Value.pointer p0_q)]) w (retK Try.prog Try.f20.results.toList R) =
((Option.isNone p0_q = true →
    R (Ending.returned (Value.tuple #[Value.int IntKind.i64 0, Value.int IntKind.i64 1])) w) ∧
  (Option.isNone p0_q = false →
    ∃ a,
      p0_q = some a ∧
        ∃ n,
          World.cell? w (Addr.add a 2) = some (Value.int IntKind.i64 n) ∧
            ((n == (0 : Int)) = true →
                R (Ending.returned (Value.tuple #[Value.int IntKind.i64 0, Value.int IntKind.i64 12]))
                  w) ∧
              ((n == (0 : Int)) = false →
                ∀ (w' : World),
                  World.heap w' = World.heap w →
                    World.os w' = World.os w →
                      World.tape w' = World.tape w →
                        World.output w' = World.output w →
                          ∃ a,
                            p0_q = some a ∧
                              ∃ p n c,
                                World.cell? w' (Addr.add a 0) = some (Value.slice p n c) ∧
                                  ∃ a,
                                    p0_q = some a ∧
                                      ∃ n_1,
                                        World.cell? w' (Addr.add a 1) = some (Value.int IntKind.i64 n_1) ∧
                                          ((0 : Int) ≤ n_1 ∧ n_1 < (↑n : Int)) ∧
                                            ∃ a,
                                              p = some a ∧
                                                ∃ n,
                                                  World.cell? w' (Addr.add a (Int.toNat n_1 * 1)) =
                                                      some (Value.int IntKind.i64 n) ∧
                                                    R
                                                      (Ending.returned
                                                        (Value.tuple
                                                          #[Value.int IntKind.i64 n, Value.int IntKind.i64 0]))
                                                      w'))) := by kernel_rfl
/-! (*davit/davitref03.Queue).Front -/
def M21 : Mt := { N := 16, keep := [(0, [0]), (1, [0, 9]), (2, [2, 3]), (3, [2, 3])], ords := [], bk := [], cuts := [], lk := [] }
noncomputable def c21 : Code := bodyOf Try.f21
theorem b21 : Try.f21.body = some c21 := by kernel_rfl
theorem n21 : Try.f21.ntmps = M21.N := by kernel_rfl
theorem u21 {p0_q : Option Addr} {w : World} {R : Ending → World → Prop} (h : den Try.prog M21 c21 (argE 0 [(Value.pointer p0_q)]) w (retK Try.prog Try.f21.results.toList R)) : Calls Try.prog 21 #[(Value.pointer p0_q)] w R := calls_den okProg Try.func21 b21 n21 (Nat.le_of_ble_eq_true rfl) h
theorem t21 (p0_q : Option Addr) (w : World) (R : Ending → World → Prop) : den Try.prog M21 c21 (argE 0 [(Value.pointer p0_q)]) w (retK Try.prog Try.f21.results.toList R) =
(∃ a,
  p0_q = some a ∧
    ∃ p n c,
      World.cell? w (Addr.add a 1) = some (Value.slice p n c) ∧
        (((↑n : Int) == (0 : Int)) = true →
            R (Ending.returned (Value.tuple #[Value.int IntKind.i64 0, Value.int IntKind.i64 12]))
              w) ∧
          (((↑n : Int) == (0 : Int)) = false →
            ∃ a,
              p0_q = some a ∧
                ∃ p n c,
                  World.cell? w (Addr.add a 1) = some (Value.slice p n c) ∧
                    ((0 : Int) ≤ (0 : Int) ∧ (0 : Int) < (↑n : Int)) ∧
                      ∃ a,
                        p = some a ∧
                          ∃ n,
                            World.cell? w (Addr.add a 0) = some (Value.int IntKind.i64 n) ∧
                              R
                                (Ending.returned
                                  (Value.tuple #[Value.int IntKind.i64 n, Value.int IntKind.i64 0]))
                                w)) := by kernel_rfl
/-! (*davit/fifo.Queue).Len -/
def M22 : Mt := { N := 9, keep := [(0, [0]), (1, [0, 4]), (2, [2]), (3, [2])], ords := [], bk := [], cuts := [], lk := [] }
noncomputable def c22 : Code := bodyOf Try.f22
theorem b22 : Try.f22.body = some c22 := by kernel_rfl
theorem n22 : Try.f22.ntmps = M22.N := by kernel_rfl
theorem u22 {p0_q : Option Addr} {w : World} {R : Ending → World → Prop} (h : den Try.prog M22 c22 (argE 0 [(Value.pointer p0_q)]) w (retK Try.prog Try.f22.results.toList R)) : Calls Try.prog 22 #[(Value.pointer p0_q)] w R := calls_den okProg Try.func22 b22 n22 (Nat.le_of_ble_eq_true rfl) h
theorem t22 (p0_q : Option Addr) (w : World) (R : Ending → World → Prop) : den Try.prog M22 c22 (argE 0 [(Value.pointer p0_q)]) w (retK Try.prog Try.f22.results.toList R) =
((Option.isNone p0_q = true → R (Ending.returned (Value.int IntKind.i64 0)) w) ∧
  (Option.isNone p0_q = false →
    ∃ a,
      p0_q = some a ∧
        ∃ n,
          World.cell? w (Addr.add a 2) = some (Value.int IntKind.i64 n) ∧
            R (Ending.returned (Value.int IntKind.i64 n)) w)) := by kernel_rfl
/-! (*davit/fifo.Queue).Cap -/
def M23 : Mt := { N := 10, keep := [(0, [0]), (1, [0, 4]), (2, [2]), (3, [2])], ords := [], bk := [], cuts := [], lk := [] }
noncomputable def c23 : Code := bodyOf Try.f23
theorem b23 : Try.f23.body = some c23 := by kernel_rfl
theorem n23 : Try.f23.ntmps = M23.N := by kernel_rfl
theorem u23 {p0_q : Option Addr} {w : World} {R : Ending → World → Prop} (h : den Try.prog M23 c23 (argE 0 [(Value.pointer p0_q)]) w (retK Try.prog Try.f23.results.toList R)) : Calls Try.prog 23 #[(Value.pointer p0_q)] w R := calls_den okProg Try.func23 b23 n23 (Nat.le_of_ble_eq_true rfl) h
theorem t23 (p0_q : Option Addr) (w : World) (R : Ending → World → Prop) : den Try.prog M23 c23 (argE 0 [(Value.pointer p0_q)]) w (retK Try.prog Try.f23.results.toList R) =
((Option.isNone p0_q = true → R (Ending.returned (Value.int IntKind.i64 0)) w) ∧
  (Option.isNone p0_q = false →
    ∃ a,
      p0_q = some a ∧
        ∃ p n c,
          World.cell? w (Addr.add a 0) = some (Value.slice p n c) ∧
            R (Ending.returned (Value.int IntKind.i64 (↑n : Int))) w)) := by kernel_rfl
/-! (*davit/fifo.Queue).Has -/
def M24 : Mt := { N := 9, keep := [(0, [0, 1]), (1, [4])], ords := [], bk := [], cuts := [], lk := [] }
noncomputable def c24 : Code := bodyOf Try.f24
theorem b24 : Try.f24.body = some c24 := by kernel_rfl
theorem n24 : Try.f24.ntmps = M24.N := by kernel_rfl
theorem u24 {p0_q : Option Addr} {p1_n : Int} {w : World} {R : Ending → World → Prop} (h : den Try.prog M24 c24 (argE 0 [(Value.pointer p0_q), (Value.int IntKind.i64 p1_n)]) w (retK Try.prog Try.f24.results.toList R)) : Calls Try.prog 24 #[(Value.pointer p0_q), (Value.int IntKind.i64 p1_n)] w R := calls_den okProg Try.func24 b24 n24 (Nat.le_of_ble_eq_true rfl) h
theorem t24 (p0_q : Option Addr) (p1_n : Int) (w : World) (R : Ending → World → Prop) : den Try.prog M24 c24 (argE 0 [(Value.pointer p0_q), (Value.int IntKind.i64 p1_n)]) w (retK Try.prog Try.f24.results.toList R) =
(Call Try.prog 11 [Value.pointer p0_q] w fun e w' =>
  ∃ p n c,
    e = Ending.returned (Value.slice p n c) ∧
      Call Try.prog 29 [Value.slice p n c, Value.int IntKind.i64 p1_n] w' fun e w' =>
        ∃ b, e = Ending.returned (Value.bool b) ∧ R (Ending.returned (Value.bool b)) w') := by kernel_rfl
/-! davit/davitref03.Has -/
def M25 : Mt := { N := 18, keep := [(0, [0, 1]), (1, [0, 1, 5]), (2, [0, 1, 5, 9]), (3, [0, 1, 5]), (4, [0, 1, 5, 17]), (5, [4]), (6, [4])], ords := [], bk := [(0, []), (1, [0, 1, 5])], cuts := [], lk := [(2, [0, 1, 5])] }
noncomputable def c25 : Code := bodyOf Try.f25
noncomputable def c25_0 : Code := c25.sr.sr
noncomputable def c25_1 : Code := c25.sr.sl.sr.sl.sl
def e25_1 (p0_l_a : Option Addr) (p0_l_n : Nat) (p0_l_c : Nat) (p1_n : Int) (p5_i : Int) : Env := [(0, SV.v (Value.slice p0_l_a p0_l_n p0_l_c)), (1, SV.v (Value.int IntKind.i64 p1_n)), (5, SV.v (Value.int IntKind.i64 p5_i))]
def k25_1 (R : Ending → World → Prop) : Cont := blockK 0 [] (seqK (fun E w => cutB (findL M25.cuts (headReg c25_0)) Try.prog M25 c25_0 E w (retK Try.prog Try.f25.results.toList R) fun E => den Try.prog M25 c25_0 E w (retK Try.prog Try.f25.results.toList R)) (retK Try.prog Try.f25.results.toList R))
theorem b25 : Try.f25.body = some c25 := by kernel_rfl
theorem n25 : Try.f25.ntmps = M25.N := by kernel_rfl
theorem u25 {p0_l_a : Option Addr} {p0_l_n : Nat} {p0_l_c : Nat} {p1_n : Int} {w : World} {R : Ending → World → Prop} (h : den Try.prog M25 c25 (argE 0 [(Value.slice p0_l_a p0_l_n p0_l_c), (Value.int IntKind.i64 p1_n)]) w (retK Try.prog Try.f25.results.toList R)) : Calls Try.prog 25 #[(Value.slice p0_l_a p0_l_n p0_l_c), (Value.int IntKind.i64 p1_n)] w R := calls_den okProg Try.func25 b25 n25 (Nat.le_of_ble_eq_true rfl) h
theorem t25 (p0_l_a : Option Addr) (p0_l_n : Nat) (p0_l_c : Nat) (p1_n : Int) (w : World) (R : Ending → World → Prop) : den Try.prog M25 c25 (argE 0 [(Value.slice p0_l_a p0_l_n p0_l_c), (Value.int IntKind.i64 p1_n)]) w (retK Try.prog Try.f25.results.toList R) =
(Cut (WP Try.prog 18 (Code.loop c25_1) (e25_1 p0_l_a p0_l_n p0_l_c p1_n (0 : Int)) w (k25_1 R))) := by kernel_rfl
theorem t25_1 (p0_l_a : Option Addr) (p0_l_n : Nat) (p0_l_c : Nat) (p1_n : Int) (p5_i : Int) (w : World) (B25_1 : Env → World → Prop) (R : Ending → World → Prop) : den Try.prog M25 c25_1 (e25_1 p0_l_a p0_l_n p0_l_c p1_n p5_i) w (loopK B25_1 (k25_1 R)) =
((decide (p5_i < (↑p0_l_n : Int)) = true →
    ((0 : Int) ≤ p5_i ∧ p5_i < (↑p0_l_n : Int)) ∧
      ∃ a,
        p0_l_a = some a ∧
          ∃ n,
            World.cell? w (Addr.add a (Int.toNat p5_i * 1)) = some (Value.int IntKind.i64 n) ∧
              ((n == p1_n) = true → R (Ending.returned (Value.bool true)) w) ∧
                ((n == p1_n) = false →
                  B25_1
                    [(0, SV.v (Value.slice p0_l_a p0_l_n p0_l_c)),
                      (1, SV.v (Value.int IntKind.i64 p1_n)),
                      (5, SV.v (Value.int IntKind.i64 (IntKind.wrap IntKind.i64 (p5_i + (1 : Int)))))]
                    w)) ∧
  (decide (p5_i < (↑p0_l_n : Int)) = false → R (Ending.returned (Value.bool false)) w)) := by kernel_rfl
/-! (*davit/fifo.Queue).at -/
def M26 : Mt := { N := 17, keep := [(0, [0, 1]), (1, [4])], ords := [(1, [0, 1, 2, 3, 4, 5, 6, 7, 8, 9, 10, 11, 12])], bk := [], cuts := [], lk := [] }
noncomputable def c26 : Code := bodyOf Try.f26
theorem b26 : Try.f26.body = some c26 := by kernel_rfl
theorem n26 : Try.f26.ntmps = M26.N := by kernel_rfl
theorem u26 {p0_q : Option Addr} {p1_n : Int} {w : World} {R : Ending → World → Prop} (h : den Try.prog M26 c26 (argE 0 [(Value.pointer p0_q), (Value.int IntKind.i64 p1_n)]) w (retK Try.prog Try.f26.results.toList R)) : Calls Try.prog 26 #[(Value.pointer p0_q), (Value.int IntKind.i64 p1_n)] w R := calls_den okProg Try.func26 b26 n26 (Nat.le_of_ble_eq_true rfl) h
theorem t26 (p0_q : Option Addr) (p1_n : Int) (w : World) (R : Ending → World → Prop) : den Try.prog M26 c26 (argE 0 [(Value.pointer p0_q), (Value.int IntKind.i64 p1_n)]) w (retK Try.prog Try.f26.results.toList R) =
(∀ (w' : World),
  World.heap w' = World.heap w →
    World.os w' = World.os w →
      World.tape w' = World.tape w →
        World.output w' = World.output w →
          ∃ a,
            p0_q = some a ∧
              ∃ n,
                World.cell? w' (Addr.add a 1) = some (Value.int IntKind.i64 n) ∧
                  ∃ a,
                    p0_q = some a ∧
                      ∃ p n_1 c,
                        World.cell? w' (Addr.add a 0) = some (Value.slice p n_1 c) ∧
                          (↑n_1 : Int) ≠ (0 : Int) ∧
                            R
                              (Ending.returned
                                (Value.int IntKind.i64 (Int.tmod (IntKind.wrap IntKind.i64 (n + p1_n)) (↑n_1 : Int))))
                              w') := by kernel_rfl
/-! davit/davitref03.Without -/
def M27 : Mt := { N := 27, keep := [(0, [0, 1]), (1, [0, 1, 5]), (2, [0, 1, 5, 6]), (3, [0, 1, 5, 6, 10]), (4, [0, 1, 5, 6]), (5, [0, 1, 5, 6, 18]), (6, [0, 1, 5, 6]), (7, [4])], ords := [], bk := [(0, [5]), (1, [0, 1, 5, 6])], cuts := [], lk := [(3, [0, 1, 5, 6])] }
noncomputable def c27 : Code := bodyOf Try.f27
noncomputable def c27_0 : Code := c27.sr.sr.sr
noncomputable def c27_1 : Code := c27.sr.sr.sl.sr.sl.sl
def e27_1 (p0_l_a : Option Addr) (p0_l_n : Nat) (p0_l_c : Nat) (p1_n : Int) (p5_out_a : Option Addr) (p5_out_n : Nat) (p5_out_c : Nat) (p6_i : Int) : Env := [(0, SV.v (Value.slice p0_l_a p0_l_n p0_l_c)), (1, SV.v (Value.int IntKind.i64 p1_n)), (5, SV.v (Value.slice p5_out_a p5_out_n p5_out_c)), (6, SV.v (Value.int IntKind.i64 p6_i))]
def k27_1 (R : Ending → World → Prop) : Cont := blockK 0 [5] (seqK (fun E w => cutB (findL M27.cuts (headReg c27_0)) Try.prog M27 c27_0 E w (retK Try.prog Try.f27.results.toList R) fun E => den Try.prog M27 c27_0 E w (retK Try.prog Try.f27.results.toList R)) (retK Try.prog Try.f27.results.toList R))
theorem b27 : Try.f27.body = some c27 := by kernel_rfl
theorem n27 : Try.f27.ntmps = M27.N := by kernel_rfl
theorem u27 {p0_l_a : Option Addr} {p0_l_n : Nat} {p0_l_c : Nat} {p1_n : Int} {w : World} {R : Ending → World → Prop} (h : den Try.prog M27 c27 (argE 0 [(Value.slice p0_l_a p0_l_n p0_l_c), (Value.int IntKind.i64 p1_n)]) w (retK Try.prog Try.f27.results.toList R)) : Calls Try.prog 27 #[(Value.slice p0_l_a p0_l_n p0_l_c), (Value.int IntKind.i64 p1_n)] w R := calls_den okProg Try.func27 b27 n27 (Nat.le_of_ble_eq_true rfl) h
theorem t27 (p0_l_a : Option Addr) (p0_l_n : Nat) (p0_l_c : Nat) (p1_n : Int) (w : World) (R : Ending → World → Prop) : den Try.prog M27 c27 (argE 0 [(Value.slice p0_l_a p0_l_n p0_l_c), (Value.int IntKind.i64 p1_n)]) w (retK Try.prog Try.f27.results.toList R) =
(Cut
  (WP Try.prog 27 (Code.loop c27_1) (e27_1 p0_l_a p0_l_n p0_l_c p1_n none 0 0 (0 : Int)) w
    (k27_1 R))) := by kernel_rfl
theorem t27_1 (p0_l_a : Option Addr) (p0_l_n : Nat) (p0_l_c : Nat) (p1_n : Int) (p5_out_a : Option Addr) (p5_out_n : Nat) (p5_out_c : Nat) (p6_i : Int) (w : World) (B27_1 : Env → World → Prop) (R : Ending → World → Prop) : den Try.prog M27 c27_1 (e27_1 p0_l_a p0_l_n p0_l_c p1_n p5_out_a p5_out_n p5_out_c p6_i) w (loopK B27_1 (k27_1 R)) =
((decide (p6_i < (↑p0_l_n : Int)) = true →
    ((0 : Int) ≤ p6_i ∧ p6_i < (↑p0_l_n : Int)) ∧
      ∃ a,
        p0_l_a = some a ∧
          ∃ n,
            World.cell? w (Addr.add a (Int.toNat p6_i * 1)) = some (Value.int IntKind.i64 n) ∧
              ((n != p1_n) = true →
                  ((0 : Int) ≤ p6_i ∧ p6_i < (↑p0_l_n : Int)) ∧
                    ∃ a,
                      p0_l_a = some a ∧
                        ∃ n,
                          World.cell? w (Addr.add a (Int.toNat p6_i * 1)) = some (Value.int IntKind.i64 n) ∧
                            New w [Value.int IntKind.i64 n] 3 fun p w' =>
                              ∃ p_1 n c w'_1,
                                Sem.run Try.prog
                                      (Builtin.append_ #[22, 22] 22
                                        #[Value.slice p5_out_a p5_out_n p5_out_c,
                                          Value.slice (some p) 1 1])
                                      w' =
                                    Result.ok (Value.slice p_1 n c) w'_1 ∧
                                  B27_1
                                    [(0, SV.v (Value.slice p0_l_a p0_l_n p0_l_c)),
                                      (1, SV.v (Value.int IntKind.i64 p1_n)),
                                      (5, SV.v (Value.slice p_1 n c)),
                                      (6,
                                        SV.v (Value.int IntKind.i64 (IntKind.wrap IntKind.i64 (p6_i + (1 : Int)))))]
                                    w'_1) ∧
                ((n != p1_n) = false →
                  B27_1
                    [(0, SV.v (Value.slice p0_l_a p0_l_n p0_l_c)),
                      (1, SV.v (Value.int IntKind.i64 p1_n)),
                      (5, SV.v (Value.slice p5_out_a p5_out_n p5_out_c)),
                      (6, SV.v (Value.int IntKind.i64 (IntKind.wrap IntKind.i64 (p6_i + (1 : Int)))))]
                    w)) ∧
  (decide (p6_i < (↑p0_l_n : Int)) = false → R (Ending.returned (Value.slice p5_out_a p5_out_n p5_out_c)) w)) := by kernel_rfl
/-! slices.Index[[]int,int] -/
def M28 : Mt := { N := 19, keep := [(0, [0, 1]), (1, [0, 1, 7, 8]), (2, [0, 1, 7, 8, 9]), (3, [0, 1, 5, 7, 8]), (4, [0, 1, 5, 7, 8, 16]), (5, [4]), (6, [0, 1, 7, 8]), (7, [4])], ords := [], bk := [(0, []), (1, [0, 1, 7, 8])], cuts := [], lk := [(2, [0, 1, 7, 8])] }
noncomputable def c28 : Code := bodyOf Try.f28
noncomputable def c28_0 : Code := c28.sr.sr
noncomputable def c28_1 : Code := c28.sr.sl.sr.sl.sl
def e28_1 (p0_s_a : Option Addr) (p0_s_n : Nat) (p0_s_c : Nat) (p1_v : Int) (p7_t : Int) (p8_t : Int) : Env := [(0, SV.v (Value.slice p0_s_a p0_s_n p0_s_c)), (1, SV.v (Value.int IntKind.i64 p1_v)), (7, SV.v (Value.int IntKind.i64 p7_t)), (8, SV.v (Value.int IntKind.i64 p8_t))]
def k28_1 (R : Ending → World → Prop) : Cont := blockK 0 [] (seqK (fun E w => cutB (findL M28.cuts (headReg c28_0)) Try.prog M28 c28_0 E w (retK Try.prog Try.f28.results.toList R) fun E => den Try.prog M28 c28_0 E w (retK Try.prog Try.f28.results.toList R)) (retK Try.prog Try.f28.results.toList R))
theorem b28 : Try.f28.body = some c28 := by kernel_rfl
theorem n28 : Try.f28.ntmps = M28.N := by kernel_rfl
theorem u28 {p0_s_a : Option Addr} {p0_s_n : Nat} {p0_s_c : Nat} {p1_v : Int} {w : World} {R : Ending → World → Prop} (h : den Try.prog M28 c28 (argE 0 [(Value.slice p0_s_a p0_s_n p0_s_c), (Value.int IntKind.i64 p1_v)]) w (retK Try.prog Try.f28.results.toList R)) : Calls Try.prog 28 #[(Value.slice p0_s_a p0_s_n p0_s_c), (Value.int IntKind.i64 p1_v)] w R := calls_den okProg Try.func28 b28 n28 (Nat.le_of_ble_eq_true rfl) h
theorem t28 (p0_s_a : Option Addr) (p0_s_n : Nat) (p0_s_c : Nat) (p1_v : Int) (w : World) (R : Ending → World → Prop) : den Try.prog M28 c28 (argE 0 [(Value.slice p0_s_a p0_s_n p0_s_c), (Value.int IntKind.i64 p1_v)]) w (retK Try.prog Try.f28.results.toList R) =
(Cut
  (WP Try.prog 19 (Code.loop c28_1) (e28_1 p0_s_a p0_s_n p0_s_c p1_v (↑p0_s_n : Int) (0 : Int)) w
    (k28_1 R))) := by kernel_rfl
theorem t28_1 (p0_s_a : Option Addr) (p0_s_n : Nat) (p0_s_c : Nat) (p1_v : Int) (p7_t : Int) (p8_t : Int) (w : World) (B28_1 : Env → World → Prop) (R : Ending → World → Prop) : den Try.prog M28 c28_1 (e28_1 p0_s_a p0_s_n p0_s_c p1_v p7_t p8_t) w (loopK B28_1 (k28_1 R)) =
((decide (p8_t < p7_t) = true →
    ((0 : Int) ≤ p8_t ∧ p8_t < (↑p0_s_n : Int)) ∧
      ∃ a,
        p0_s_a = some a ∧
          ∃ n,
            World.cell? w (Addr.add a (Int.toNat p8_t * 1)) = some (Value.int IntKind.i64 n) ∧
              ((p1_v == n) = true → R (Ending.returned (Value.int IntKind.i64 p8_t)) w) ∧
                ((p1_v == n) = false →
                  B28_1
                    [(0, SV.v (Value.slice p0_s_a p0_s_n p0_s_c)),
                      (1, SV.v (Value.int IntKind.i64 p1_v)), (7, SV.v (Value.int IntKind.i64 p7_t)),
                      (8, SV.v (Value.int IntKind.i64 (IntKind.wrap IntKind.i64 (p8_t + (1 : Int)))))]
                    w)) ∧
  (decide (p8_t < p7_t) = false → R (Ending.returned (Value.int IntKind.i64 (-1 : Int))) w)) := by kernel_rfl
/-! slices.Contains[[]int,int] -/
def M29 : Mt := { N := 9, keep := [(0, [0, 1]), (1, [4])], ords := [], bk := [], cuts := [], lk := [] }
noncomputable def c29 : Code := bodyOf Try.f29
theorem b29 : Try.f29.body = some c29 := by kernel_rfl
theorem n29 : Try.f29.ntmps = M29.N := by kernel_rfl
theorem u29 {p0_s_a : Option Addr} {p0_s_n : Nat} {p0_s_c : Nat} {p1_v : Int} {w : World} {R : Ending → World → Prop} (h : den Try.prog M29 c29 (argE 0 [(Value.slice p0_s_a p0_s_n p0_s_c), (Value.int IntKind.i64 p1_v)]) w (retK Try.prog Try.f29.results.toList R)) : Calls Try.prog 29 #[(Value.slice p0_s_a p0_s_n p0_s_c), (Value.int IntKind.i64 p1_v)] w R := calls_den okProg Try.func29 b29 n29 (Nat.le_of_ble_eq_true rfl) h
theorem t29 (p0_s_a : Option Addr) (p0_s_n : Nat) (p0_s_c : Nat) (p1_v : Int) (w : World) (R : Ending → World → Prop) : den Try.prog M29 c29 (argE 0 [(Value.slice p0_s_a p0_s_n p0_s_c), (Value.int IntKind.i64 p1_v)]) w (retK Try.prog Try.f29.results.toList R) =
(Call Try.prog 28 [Value.slice p0_s_a p0_s_n p0_s_c, Value.int IntKind.i64 p1_v] w fun e w' =>
  ∃ n, e = Ending.returned (Value.int IntKind.i64 n) ∧ R (Ending.returned (Value.bool (decide (n ≥ (0 : Int))))) w') := by kernel_rfl
end Go.Dav
