/- What functions of the program come to. -/
import Derived.Test.YtejkpmndkpmjgaaPrg09
namespace Go.Dav
open Go.Proofs
/-! davit/davitlaw09.PrioRound -/
def M3 : Mt := { N := 110, keep := [(0, [0]), (1, [0, 3, 4]), (2, [0, 3, 21]), (3, [2]), (4, [0, 3, 5]), (5, [0, 3, 5, 29]), (6, [0, 3, 5]), (7, [0, 3, 5]), (8, [3, 6]), (9, [3, 6, 7, 8]), (10, [3, 6, 7, 52]), (11, [2]), (12, [3, 6, 9]), (13, [3, 6, 9, 11]), (14, [3, 6, 9, 11, 68]), (15, [3, 6, 9, 11]), (16, [3, 6, 9, 11, 12]), (17, [3, 6, 9, 11, 82]), (18, [3, 6, 9, 11, 14, 15]), (19, [3, 6, 9, 11, 102]), (20, [2]), (21, [2])], ords := [(7, [0, 1, 2, 3, 4, 5, 6, 7, 8, 9, 10, 11])], bk := [(0, [3]), (1, [0, 3, 5]), (2, [3, 6]), (3, [3, 6, 9, 11])], cuts := [(8, [3]), (21, [3, 6])], lk := [(5, [0, 3, 5]), (14, [3, 6, 9, 11])] }
noncomputable def c3 : Code := bodyOf Try.f3
noncomputable def c3_0 : Code := c3.sr.sr.sr.sr
noncomputable def c3_1 : Code := c3.sr.sr.sr.sl.sr.sl.sl
noncomputable def c3_2 : Code := c3.sr.sr.sr.sr.sr.sr.sr.sr.sr
noncomputable def c3_3 : Code := c3.sr.sr.sr.sr.sr.sr.sr.sr.sl.sr.sl.sl
def e3_0 (p3_q : Option Addr) : Env := [(3, SV.v (Value.pointer p3_q))]
def e3_1 (p0_acts_a : Option Addr) (p0_acts_n : Nat) (p0_acts_c : Nat) (p3_q : Option Addr) (p5_i : Int) : Env := [(0, SV.v (Value.slice p0_acts_a p0_acts_n p0_acts_c)), (3, SV.v (Value.pointer p3_q)), (5, SV.v (Value.int IntKind.i64 p5_i))]
def e3_2 (p3_q : Option Addr) (p6_was_a : Option Addr) (p6_was_n : Nat) (p6_was_c : Nat) : Env := [(3, SV.v (Value.pointer p3_q)), (6, SV.v (Value.slice p6_was_a p6_was_n p6_was_c))]
def e3_3 (p3_q : Option Addr) (p6_was_a : Option Addr) (p6_was_n : Nat) (p6_was_c : Nat) (p9_top : Int) (p11_i : Int) : Env := [(3, SV.v (Value.pointer p3_q)), (6, SV.v (Value.slice p6_was_a p6_was_n p6_was_c)), (9, SV.v (Value.int IntKind.i64 p9_top)), (11, SV.v (Value.int IntKind.i64 p11_i))]
def k3_0 (R : Ending → World → Prop) : Cont := retK Try.prog Try.f3.results.toList R
def k3_1 (R : Ending → World → Prop) : Cont := blockK 0 [3] (seqK (fun E w => cutB (findL M3.cuts (headReg c3_0)) Try.prog M3 c3_0 E w (retK Try.prog Try.f3.results.toList R) fun E => den Try.prog M3 c3_0 E w (retK Try.prog Try.f3.results.toList R)) (retK Try.prog Try.f3.results.toList R))
def k3_2 (R : Ending → World → Prop) : Cont := retK Try.prog Try.f3.results.toList R
def k3_3 (R : Ending → World → Prop) : Cont := blockK 2 [3, 6] (seqK (fun E w => cutB (findL M3.cuts (headReg c3_2)) Try.prog M3 c3_2 E w (retK Try.prog Try.f3.results.toList R) fun E => den Try.prog M3 c3_2 E w (retK Try.prog Try.f3.results.toList R)) (retK Try.prog Try.f3.results.toList R))
theorem b3 : Try.f3.body = some c3 := by kernel_rfl
theorem n3 : Try.f3.ntmps = M3.N := by kernel_rfl
theorem u3 {p0_acts_a : Option Addr} {p0_acts_n : Nat} {p0_acts_c : Nat} {w : World} {R : Ending → World → Prop} (h : den Try.prog M3 c3 (argE 0 [(Value.slice p0_acts_a p0_acts_n p0_acts_c)]) w (retK Try.prog Try.f3.results.toList R)) : Calls Try.prog 3 #[(Value.slice p0_acts_a p0_acts_n p0_acts_c)] w R := calls_den okProg Try.func3 b3 n3 (Nat.le_of_ble_eq_true rfl) h
theorem t3 (p0_acts_a : Option Addr) (p0_acts_n : Nat) (p0_acts_c : Nat) (w : World) (R : Ending → World → Prop) : den Try.prog M3 c3 (argE 0 [(Value.slice p0_acts_a p0_acts_n p0_acts_c)]) w (retK Try.prog Try.f3.results.toList R) =
(Call Try.prog 7 [Value.int IntKind.i64 1024] w fun e w' =>
  ∃ p n,
    e = Ending.returned (Value.tuple #[Value.pointer p, Value.int IntKind.i64 n]) ∧
      ((n != (0 : Int)) = true → R (Ending.returned (Value.bool false)) w') ∧
        ((n != (0 : Int)) = false →
          Cut
            (WP Try.prog 110 (Code.loop c3_1) (e3_1 p0_acts_a p0_acts_n p0_acts_c p (0 : Int)) w' (k3_1 R)))) := by kernel_rfl
theorem t3_0 (p3_q : Option Addr) (w : World) (R : Ending → World → Prop) : den Try.prog M3 c3_0 (e3_0 p3_q) w (k3_0 R) =
(Call Try.prog 9 [Value.pointer p3_q] w fun e w' =>
  ∃ p n c,
    e = Ending.returned (Value.slice p n c) ∧
      Call Try.prog 10 [Value.pointer p3_q] w' fun e w' =>
        ∃ n_1 n_2,
          e = Ending.returned (Value.tuple #[Value.int IntKind.i64 n_1, Value.int IntKind.i64 n_2]) ∧
            ((n_2 != (0 : Int)) = true →
                (((↑n : Int) == (0 : Int)) = true →
                    Call Try.prog 11 [] w' fun e w' =>
                      ∃ b, e = Ending.returned (Value.bool b) ∧ R (Ending.returned (Value.bool b)) w') ∧
                  (((↑n : Int) == (0 : Int)) = false → R (Ending.returned (Value.bool false)) w')) ∧
              ((n_2 != (0 : Int)) = false →
                Call Try.prog 12 [Value.pointer p3_q, Value.int IntKind.i64 n_1] w' fun e w' =>
                  ∃ n_3 b,
                    e = Ending.returned (Value.tuple #[Value.int IntKind.i64 n_3, Value.bool b]) ∧
                      Cut (WP Try.prog 110 (Code.loop c3_3) (e3_3 p3_q p n c n_3 (0 : Int)) w' (k3_3 R)))) := by kernel_rfl
theorem t3_1 (p0_acts_a : Option Addr) (p0_acts_n : Nat) (p0_acts_c : Nat) (p3_q : Option Addr) (p5_i : Int) (w : World) (B3_1 : Env → World → Prop) (R : Ending → World → Prop) : den Try.prog M3 c3_1 (e3_1 p0_acts_a p0_acts_n p0_acts_c p3_q p5_i) w (loopK B3_1 (k3_1 R)) =
((decide (p5_i < (↑p0_acts_n : Int)) = true →
    (decide (p5_i < (100 : Int)) = true →
        ∀ (w' : World),
          World.heap w' = World.heap w →
            World.os w' = World.os w →
              World.tape w' = World.tape w →
                World.output w' = World.output w →
                  ((0 : Int) ≤ p5_i ∧ p5_i < (↑p0_acts_n : Int)) ∧
                    ∃ a,
                      p0_acts_a = some a ∧
                        ∃ n,
                          World.cell? w' (Addr.add (Addr.add a (Int.toNat p5_i * 3)) 1) =
                              some (Value.int IntKind.i64 n) ∧
                            ((0 : Int) ≤ p5_i ∧ p5_i < (↑p0_acts_n : Int)) ∧
                              ∃ a,
                                p0_acts_a = some a ∧
                                  ∃ n_1,
                                    World.cell? w' (Addr.add (Addr.add a (Int.toNat p5_i * 3)) 2) =
                                        some (Value.int IntKind.i64 n_1) ∧
                                      Call Try.prog 8
                                        [Value.pointer p3_q, Value.int IntKind.i64 n, Value.int IntKind.i64 n_1] w'
                                        fun e w' =>
                                        ∃ n,
                                          e = Ending.returned (Value.int IntKind.i64 n) ∧
                                            B3_1
                                              [(0, SV.v (Value.slice p0_acts_a p0_acts_n p0_acts_c)),
                                                (3, SV.v (Value.pointer p3_q)),
                                                (5,
                                                  SV.v
                                                    (Value.int IntKind.i64
                                                      (IntKind.wrap IntKind.i64 (p5_i + (1 : Int)))))]
                                              w') ∧
      (decide (p5_i < (100 : Int)) = false → CutD Try.prog M3 c3_0 (e3_0 p3_q) w (k3_0 R))) ∧
  (decide (p5_i < (↑p0_acts_n : Int)) = false → CutD Try.prog M3 c3_0 (e3_0 p3_q) w (k3_0 R))) := by kernel_rfl
theorem t3_2 (p3_q : Option Addr) (p6_was_a : Option Addr) (p6_was_n : Nat) (p6_was_c : Nat) (w : World) (R : Ending → World → Prop) : den Try.prog M3 c3_2 (e3_2 p3_q p6_was_a p6_was_n p6_was_c) w (k3_2 R) =
(Call Try.prog 9 [Value.pointer p3_q] w fun e w' =>
  ∃ p n c,
    e = Ending.returned (Value.slice p n c) ∧
      Call Try.prog 14 [Value.slice p n c, Value.slice p6_was_a p6_was_n p6_was_c] w' fun e w' =>
        ∃ b,
          e = Ending.returned (Value.bool b) ∧
            (b = true →
                Call Try.prog 11 [] w' fun e w' =>
                  ∃ b, e = Ending.returned (Value.bool b) ∧ R (Ending.returned (Value.bool b)) w') ∧
              (b = false → R (Ending.returned (Value.bool false)) w')) := by kernel_rfl
theorem t3_3 (p3_q : Option Addr) (p6_was_a : Option Addr) (p6_was_n : Nat) (p6_was_c : Nat) (p9_top : Int) (p11_i : Int) (w : World) (B3_3 : Env → World → Prop) (R : Ending → World → Prop) : den Try.prog M3 c3_3 (e3_3 p3_q p6_was_a p6_was_n p6_was_c p9_top p11_i) w (loopK B3_3 (k3_3 R)) =
((decide (p11_i < (↑p6_was_n : Int)) = true →
    ((0 : Int) ≤ p11_i ∧ p11_i < (↑p6_was_n : Int)) ∧
      ∃ a,
        p6_was_a = some a ∧
          ∃ n,
            World.cell? w (Addr.add a (Int.toNat p11_i * 1)) = some (Value.int IntKind.i64 n) ∧
              Call Try.prog 12 [Value.pointer p3_q, Value.int IntKind.i64 n] w fun e w' =>
                ∃ n b,
                  e = Ending.returned (Value.tuple #[Value.int IntKind.i64 n, Value.bool b]) ∧
                    ((n != p9_top) = true →
                        CutD Try.prog M3 c3_2 (e3_2 p3_q p6_was_a p6_was_n p6_was_c) w' (k3_2 R)) ∧
                      ((n != p9_top) = false →
                        Call Try.prog 10 [Value.pointer p3_q] w' fun e w' =>
                          ∃ n n_1,
                            e = Ending.returned (Value.tuple #[Value.int IntKind.i64 n, Value.int IntKind.i64 n_1]) ∧
                              ((0 : Int) ≤ p11_i ∧ p11_i < (↑p6_was_n : Int)) ∧
                                ∃ a,
                                  p6_was_a = some a ∧
                                    ∃ n_2,
                                      World.cell? w' (Addr.add a (Int.toNat p11_i * 1)) =
                                          some (Value.int IntKind.i64 n_2) ∧
                                        ((n != n_2) = false →
                                            ((n_1 != (0 : Int)) = false →
                                                Call Try.prog 13 [Value.pointer p3_q] w' fun e w' =>
                                                  ∃ n,
                                                    e = Ending.returned (Value.int IntKind.i64 n) ∧
                                                      ((n != (0 : Int)) = true →
                                                          R (Ending.returned (Value.bool false)) w') ∧
                                                        ((n != (0 : Int)) = false →
                                                          B3_3
                                                            [(3, SV.v (Value.pointer p3_q)),
                                                              (6,
                                                                SV.v (Value.slice p6_was_a p6_was_n p6_was_c)),
                                                              (9, SV.v (Value.int IntKind.i64 p9_top)),
                                                              (11,
                                                                SV.v
                                                                  (Value.int IntKind.i64
                                                                    (IntKind.wrap IntKind.i64 (p11_i + (1 : Int)))))]
                                                            w')) ∧
                                              ((n_1 != (0 : Int)) = true →
                                                R (Ending.returned (Value.bool false)) w')) ∧
                                          ((n != n_2) = true → R (Ending.returned (Value.bool false)) w'))) ∧
  (decide (p11_i < (↑p6_was_n : Int)) = false →
    CutD Try.prog M3 c3_2 (e3_2 p3_q p6_was_a p6_was_n p6_was_c) w (k3_2 R))) := by kernel_rfl
/-! davit/davitlaw09.PrioPlays -/
def M4 : Mt := { N := 126, keep := [(0, [0, 1]), (1, [0, 1, 5, 6]), (2, [1, 5, 6, 7, 8]), (3, [1, 5, 7, 37]), (4, [4]), (5, [1, 5, 7, 39]), (6, [4]), (7, [1, 5, 7, 9]), (8, [1, 5, 7, 9, 48]), (9, [1, 5, 7, 9]), (10, [1, 5, 7, 9, 58]), (11, [4]), (12, [1, 5, 7, 9, 10, 11]), (13, [1, 5, 7, 9, 10, 11, 12, 13]), (14, [1, 5, 7, 9, 10, 11, 12, 13, 14, 15]), (15, [1, 5, 7, 9, 10, 11, 12, 13, 14, 15, 16, 17]), (16, [1, 5, 7, 9, 124]), (17, [4]), (18, [4])], ords := [(16, [0, 1, 2, 3, 4, 5, 6, 7, 8, 9, 10, 11, 12, 13, 14, 15, 16, 17, 18, 19, 21, 22, 23, 24, 25, 20, 26, 27, 28, 29, 31, 30, 32, 33, 34, 35])], bk := [(0, []), (1, [1, 5, 7, 9])], cuts := [(18, [])], lk := [(8, [1, 5, 7, 9])] }
noncomputable def c4 : Code := bodyOf Try.f4
noncomputable def c4_0 : Code := c4.sr.sr.sr.sr.sr.sr
noncomputable def c4_1 : Code := c4.sr.sr.sr.sr.sr.sl.sr.sl.sl
def e4_0  : Env := []
def e4_1 (p1_acts_a : Option Addr) (p1_acts_n : Nat) (p1_acts_c : Nat) (p5_q : Option Addr) (p7_r : Option Addr) (p9_i : Int) : Env := [(1, SV.v (Value.slice p1_acts_a p1_acts_n p1_acts_c)), (5, SV.v (Value.pointer p5_q)), (7, SV.v (Value.pointer p7_r)), (9, SV.v (Value.int IntKind.i64 p9_i))]
def k4_0 (R : Ending → World → Prop) : Cont := retK Try.prog Try.f4.results.toList R
def k4_1 (R : Ending → World → Prop) : Cont := blockK 0 [] (seqK (fun E w => cutB (findL M4.cuts (headReg c4_0)) Try.prog M4 c4_0 E w (retK Try.prog Try.f4.results.toList R) fun E => den Try.prog M4 c4_0 E w (retK Try.prog Try.f4.results.toList R)) (retK Try.prog Try.f4.results.toList R))
theorem b4 : Try.f4.body = some c4 := by kernel_rfl
theorem n4 : Try.f4.ntmps = M4.N := by kernel_rfl
theorem u4 {p0_most : Int} {p1_acts_a : Option Addr} {p1_acts_n : Nat} {p1_acts_c : Nat} {w : World} {R : Ending → World → Prop} (h : den Try.prog M4 c4 (argE 0 [(Value.int IntKind.i64 p0_most), (Value.slice p1_acts_a p1_acts_n p1_acts_c)]) w (retK Try.prog Try.f4.results.toList R)) : Calls Try.prog 4 #[(Value.int IntKind.i64 p0_most), (Value.slice p1_acts_a p1_acts_n p1_acts_c)] w R := calls_den okProg Try.func4 b4 n4 (Nat.le_of_ble_eq_true rfl) h
theorem t4 (p0_most : Int) (p1_acts_a : Option Addr) (p1_acts_n : Nat) (p1_acts_c : Nat) (w : World) (R : Ending → World → Prop) : den Try.prog M4 c4 (argE 0 [(Value.int IntKind.i64 p0_most), (Value.slice p1_acts_a p1_acts_n p1_acts_c)]) w (retK Try.prog Try.f4.results.toList R) =
(Call Try.prog 7 [Value.int IntKind.i64 p0_most] w fun e w' =>
  ∃ p n,
    e = Ending.returned (Value.tuple #[Value.pointer p, Value.int IntKind.i64 n]) ∧
      Call Try.prog 15 [Value.int IntKind.i64 p0_most] w' fun e w' =>
        ∃ p_1 n_1,
          e = Ending.returned (Value.tuple #[Value.pointer p_1, Value.int IntKind.i64 n_1]) ∧
            ((n != n_1) = false →
                ((!Option.isNone p == Option.isNone p_1) = true → R (Ending.returned (Value.bool false)) w') ∧
                  ((!Option.isNone p == Option.isNone p_1) = false →
                    (Option.isNone p_1 = true →
                        Call Try.prog 11 [] w' fun e w' =>
                          ∃ b, e = Ending.returned (Value.bool b) ∧ R (Ending.returned (Value.bool b)) w') ∧
                      (Option.isNone p_1 = false →
                        Cut
                          (WP Try.prog 126 (Code.loop c4_1)
                            (e4_1 p1_acts_a p1_acts_n p1_acts_c p p_1 (0 : Int)) w' (k4_1 R))))) ∧
              ((n != n_1) = true → R (Ending.returned (Value.bool false)) w')) := by kernel_rfl
theorem t4_0  (w : World) (R : Ending → World → Prop) : den Try.prog M4 c4_0 (e4_0 ) w (k4_0 R) =
(Call Try.prog 11 [] w fun e w' =>
  ∃ b, e = Ending.returned (Value.bool b) ∧ R (Ending.returned (Value.bool b)) w') := by kernel_rfl
theorem t4_1 (p1_acts_a : Option Addr) (p1_acts_n : Nat) (p1_acts_c : Nat) (p5_q : Option Addr) (p7_r : Option Addr) (p9_i : Int) (w : World) (B4_1 : Env → World → Prop) (R : Ending → World → Prop) : den Try.prog M4 c4_1 (e4_1 p1_acts_a p1_acts_n p1_acts_c p5_q p7_r p9_i) w (loopK B4_1 (k4_1 R)) =
((decide (p9_i < (↑p1_acts_n : Int)) = true →
    (decide (p9_i < (150 : Int)) = true →
        ((0 : Int) ≤ p9_i ∧ p9_i < (↑p1_acts_n : Int)) ∧
          ∃ a,
            p1_acts_a = some a ∧
              ∃ n,
                World.cell? w (Addr.add (Addr.add a (Int.toNat p9_i * 3)) 0) =
                    some (Value.int IntKind.i64 n) ∧
                  ∃ n_1,
                    World.cell? w (Addr.add (Addr.add a (Int.toNat p9_i * 3)) 1) =
                        some (Value.int IntKind.i64 n_1) ∧
                      ∃ n_2,
                        World.cell? w (Addr.add (Addr.add a (Int.toNat p9_i * 3)) 2) =
                            some (Value.int IntKind.i64 n_2) ∧
                          Call Try.prog 16
                            [Value.pointer p5_q, Value.pointer p7_r,
                              Value.agg
                                #[Value.int IntKind.i64 n, Value.int IntKind.i64 n_1, Value.int IntKind.i64 n_2]]
                            w fun e w' =>
                            ∃ b,
                              e = Ending.returned (Value.bool b) ∧
                                ((!b) = true → R (Ending.returned (Value.bool false)) w') ∧
                                  ((!b) = false →
                                    Call Try.prog 10 [Value.pointer p5_q] w' fun e w' =>
                                      ∃ n n_3,
                                        e =
                                            Ending.returned
                                              (Value.tuple #[Value.int IntKind.i64 n, Value.int IntKind.i64 n_3]) ∧
                                          Call Try.prog 17 [Value.pointer p7_r] w' fun e w' =>
                                            ∃ n_4 n_5,
                                              e =
                                                  Ending.returned
                                                    (Value.tuple
                                                      #[Value.int IntKind.i64 n_4, Value.int IntKind.i64 n_5]) ∧
                                                ((0 : Int) ≤ p9_i ∧ p9_i < (↑p1_acts_n : Int)) ∧
                                                  ∃ a,
                                                    p1_acts_a = some a ∧
                                                      ∃ n_6,
                                                        World.cell? w'
                                                              (Addr.add (Addr.add a (Int.toNat p9_i * 3))
                                                                2) =
                                                            some (Value.int IntKind.i64 n_6) ∧
                                                          Call Try.prog 12
                                                            [Value.pointer p5_q, Value.int IntKind.i64 n_6] w'
                                                            fun e w' =>
                                                            ∃ n_7 b,
                                                              e =
                                                                  Ending.returned
                                                                    (Value.tuple
                                                                      #[Value.int IntKind.i64 n_7, Value.bool b]) ∧
                                                                ((0 : Int) ≤ p9_i ∧ p9_i < (↑p1_acts_n : Int)) ∧
                                                                  ∃ a,
                                                                    p1_acts_a = some a ∧
                                                                      ∃ n_8,
                                                                        World.cell? w'
                                                                              (Addr.add
                                                                                (Addr.add a
                                                                                  (Int.toNat p9_i * 3))
                                                                                2) =
                                                                            some (Value.int IntKind.i64 n_8) ∧
                                                                          Call Try.prog 18
                                                                            [Value.pointer p7_r,
                                                                              Value.int IntKind.i64 n_8]
                                                                            w' fun e w' =>
                                                                            ∃ n_9 b_1,
                                                                              e =
                                                                                  Ending.returned
                                                                                    (Value.tuple
                                                                                      #[Value.int IntKind.i64 n_9,
                                                                                        Value.bool b_1]) ∧
                                                                                ∀ (w'_1 : World),
                                                                                  World.heap w'_1 = World.heap w' →
                                                                                    World.os w'_1 = World.os w' →
                                                                                      World.tape w'_1 = World.tape w' →
                                                                                        World.output w'_1 =
                                                                                            World.output w' →
                                                                                          ((n != n_4) = false →
                                                                                              ((n_3 != n_5) = false →
                                                                                                  ((n_7 != n_9) =
                                                                                                        false →
                                                                                                      ((!b == b_1) =
                                                                                                            false →
                                                                                                          ∃ a,
                                                                                                            p7_r =
                                                                                                                some a ∧
                                                                                                              ∃ p n c,
                                                                                                                World.cell?
                                                                                                                      w'_1
                                                                                                                      (Addr.add
                                                                                                                        a
                                                                                                                        1) =
                                                                                                                    some
                                                                                                                      (Value.slice
                                                                                                                        p
                                                                                                                        n
                                                                                                                        c) ∧
                                                                                                                  Call
                                                                                                                    Try.prog
                                                                                                                    19
                                                                                                                    [Value.pointer
                                                                                                                        p5_q]
                                                                                                                    w'_1
                                                                                                                    fun
                                                                                                                      e
                                                                                                                      w' =>
                                                                                                                    ∃
                                                                                                                      n_10,
                                                                                                                      e =
                                                                                                                          Ending.returned
                                                                                                                            (Value.int
                                                                                                                              IntKind.i64
                                                                                                                              n_10) ∧
                                                                                                                        World.cell?
                                                                                                                              w'
                                                                                                                              (Addr.add
                                                                                                                                a
                                                                                                                                1) =
                                                                                                                            some
                                                                                                                              (Value.slice
                                                                                                                                p
                                                                                                                                n
                                                                                                                                c) ∧
                                                                                                                          ((n_10 !=
                                                                                                                                  (↑n :
                                                                                                                                    Int)) =
                                                                                                                                false →
                                                                                                                              Call
                                                                                                                                Try.prog
                                                                                                                                9
                                                                                                                                [Value.pointer
                                                                                                                                    p5_q]
                                                                                                                                w'
                                                                                                                                fun
                                                                                                                                  e
                                                                                                                                  w' =>
                                                                                                                                ∃
                                                                                                                                  p
                                                                                                                                  n
                                                                                                                                  c,
                                                                                                                                  e =
                                                                                                                                      Ending.returned
                                                                                                                                        (Value.slice
                                                                                                                                          p
                                                                                                                                          n
                                                                                                                                          c) ∧
                                                                                                                                    Call
                                                                                                                                      Try.prog
                                                                                                                                      20
                                                                                                                                      [Value.pointer
                                                                                                                                          p7_r]
                                                                                                                                      w'
                                                                                                                                      fun
                                                                                                                                        e
                                                                                                                                        w' =>
                                                                                                                                      ∃
                                                                                                                                        p_1
                                                                                                                                        n_11
                                                                                                                                        c_1,
                                                                                                                                        e =
                                                                                                                                            Ending.returned
                                                                                                                                              (Value.slice
                                                                                                                                                p_1
                                                                                                                                                n_11
                                                                                                                                                c_1) ∧
                                                                                                                                          Call
                                                                                                                                            Try.prog
                                                                                                                                            14
                                                                                                                                            [Value.slice
                                                                                                                                                p
                                                                                                                                                n
                                                                                                                                                c,
                                                                                                                                              Value.slice
                                                                                                                                                p_1
                                                                                                                                                n_11
                                                                                                                                                c_1]
                                                                                                                                            w'
                                                                                                                                            fun
                                                                                                                                              e
                                                                                                                                              w' =>
                                                                                                                                            ∃
                                                                                                                                              b,
                                                                                                                                              e =
                                                                                                                                                  Ending.returned
                                                                                                                                                    (Value.bool
                                                                                                                                                      b) ∧
                                                                                                                                                ((!b) =
                                                                                                                                                      true →
                                                                                                                                                    R
                                                                                                                                                      (Ending.returned
                                                                                                                                                        (Value.bool
                                                                                                                                                          false))
                                                                                                                                                      w') ∧
                                                                                                                                                  ((!b) =
                                                                                                                                                      false →
                                                                                                                                                    B4_1
                                                                                                                                                      [(1,
                                                                                                                                                          SV.v
                                                                                                                                                            (Value.slice
                                                                                                                                                              p1_acts_a
                                                                                                                                                              p1_acts_n
                                                                                                                                                              p1_acts_c)),
                                                                                                                                                        (5,
                                                                                                                                                          SV.v
                                                                                                                                                            (Value.pointer
                                                                                                                                                              p5_q)),
                                                                                                                                                        (7,
                                                                                                                                                          SV.v
                                                                                                                                                            (Value.pointer
                                                                                                                                                              p7_r)),
                                                                                                                                                        (9,
                                                                                                                                                          SV.v
                                                                                                                                                            (Value.int
                                                                                                                                                              IntKind.i64
                                                                                                                                                              (IntKind.wrap
                                                                                                                                                                IntKind.i64
                                                                                                                                                                (p9_i +
                                                                                                                                                                  (1 :
                                                                                                                                                                    Int)))))]
                                                                                                                                                      w')) ∧
                                                                                                                            ((n_10 !=
                                                                                                                                  (↑n :
                                                                                                                                    Int)) =
                                                                                                                                true →
                                                                                                                              R
                                                                                                                                (Ending.returned
                                                                                                                                  (Value.bool
                                                                                                                                    false))
                                                                                                                                w')) ∧
                                                                                                        ((!b == b_1) =
                                                                                                            true →
                                                                                                          R
                                                                                                            (Ending.returned
                                                                                                              (Value.bool
                                                                                                                false))
                                                                                                            w'_1)) ∧
                                                                                                    ((n_7 != n_9) =
                                                                                                        true →
                                                                                                      R
                                                                                                        (Ending.returned
                                                                                                          (Value.bool
                                                                                                            false))
                                                                                                        w'_1)) ∧
                                                                                                ((n_3 != n_5) = true →
                                                                                                  R
                                                                                                    (Ending.returned
                                                                                                      (Value.bool
                                                                                                        false))
                                                                                                    w'_1)) ∧
                                                                                            ((n != n_4) = true →
                                                                                              R
                                                                                                (Ending.returned
                                                                                                  (Value.bool false))
                                                                                                w'_1))) ∧
      (decide (p9_i < (150 : Int)) = false → CutD Try.prog M4 c4_0 e4_0 w (k4_0 R))) ∧
  (decide (p9_i < (↑p1_acts_n : Int)) = false → CutD Try.prog M4 c4_0 e4_0 w (k4_0 R))) := by kernel_rfl
/-! davit/davitlaw09.PrioFirst -/
def M5 : Mt := { N := 125, keep := [(0, [0]), (1, [0, 3, 4]), (2, [0, 3, 19]), (3, [2]), (4, [0, 3, 5]), (5, [0, 3, 5, 27]), (6, [0, 3, 5]), (7, [0, 3, 5, 35]), (8, [0, 3, 5]), (9, [0, 3, 5, 35, 43]), (10, [0, 3, 5]), (11, [0, 3, 5, 35, 57]), (12, [0, 3, 5]), (13, [0, 3, 5, 61]), (14, [0, 3, 5]), (15, [0, 3, 5, 6]), (16, [0, 3, 5, 6, 7, 8]), (17, [0, 3, 5, 6, 7, 8, 79]), (18, [0, 3, 5, 81]), (19, [2]), (20, [0, 3, 5, 6, 7, 8, 9, 10]), (21, [0, 3, 5, 6, 9, 100]), (22, [2]), (23, [0, 3, 5, 6, 9, 11]), (24, [0, 3, 5, 6, 9, 11, 104]), (25, [0, 3, 5, 6, 9, 11]), (26, [0, 3, 5, 6, 9, 11, 12, 13]), (27, [0, 3, 5, 6, 11, 12, 122]), (28, [2]), (29, [0, 3, 5, 6, 9, 11]), (30, [2])], ords := [(10, [0, 1, 2, 3, 4, 5, 6, 7, 8, 9, 10, 11])], bk := [(0, []), (1, [0, 3, 5]), (2, [0, 3, 5]), (3, [0, 3, 5]), (4, [0, 3, 5, 6, 9, 11])], cuts := [(15, [0, 3, 5]), (30, [])], lk := [(5, [0, 3, 5]), (24, [0, 3, 5, 6, 9, 11])] }
noncomputable def c5 : Code := bodyOf Try.f5
noncomputable def c5_0 : Code := c5.sr.sr.sr.sr
noncomputable def c5_1 : Code := c5.sr.sr.sr.sl.sr.sl.sl
noncomputable def c5_2 : Code := c5.sr.sr.sr.sl.sr.sl.sl.sr.sr
noncomputable def c5_3 : Code := c5.sr.sr.sr.sl.sr.sl.sl.sr.sl.sl.sr
noncomputable def c5_4 : Code := c5.sr.sr.sr.sl.sr.sl.sl.sr.sl.sl.sr.sr.sr.sr.sr.sr.sr.sl.sl
def e5_0  : Env := []
def e5_1 (p0_acts_a : Option Addr) (p0_acts_n : Nat) (p0_acts_c : Nat) (p3_q : Option Addr) (p5_i : Int) : Env := [(0, SV.v (Value.slice p0_acts_a p0_acts_n p0_acts_c)), (3, SV.v (Value.pointer p3_q)), (5, SV.v (Value.int IntKind.i64 p5_i))]
def e5_3 (p0_acts_a : Option Addr) (p0_acts_n : Nat) (p0_acts_c : Nat) (p3_q : Option Addr) (p5_i : Int) : Env := [(0, SV.v (Value.slice p0_acts_a p0_acts_n p0_acts_c)), (3, SV.v (Value.pointer p3_q)), (5, SV.v (Value.int IntKind.i64 p5_i))]
def e5_4 (p0_acts_a : Option Addr) (p0_acts_n : Nat) (p0_acts_c : Nat) (p3_q : Option Addr) (p5_i : Int) (p6_l_a : Option Addr) (p6_l_n : Nat) (p6_l_c : Nat) (p9_p : Int) (p11_k : Int) : Env := [(0, SV.v (Value.slice p0_acts_a p0_acts_n p0_acts_c)), (3, SV.v (Value.pointer p3_q)), (5, SV.v (Value.int IntKind.i64 p5_i)), (6, SV.v (Value.slice p6_l_a p6_l_n p6_l_c)), (9, SV.v (Value.int IntKind.i64 p9_p)), (11, SV.v (Value.int IntKind.i64 p11_k))]
def k5_0 (R : Ending → World → Prop) : Cont := retK Try.prog Try.f5.results.toList R
def k5_1 (R : Ending → World → Prop) : Cont := blockK 0 [] (seqK (fun E w => cutB (findL M5.cuts (headReg c5_0)) Try.prog M5 c5_0 E w (retK Try.prog Try.f5.results.toList R) fun E => den Try.prog M5 c5_0 E w (retK Try.prog Try.f5.results.toList R)) (retK Try.prog Try.f5.results.toList R))
def k5_3 (B5_1 : Env → World → Prop) (R : Ending → World → Prop) : Cont := blockK 1 [0, 3, 5] (seqK (fun E w => cutB (findL M5.cuts (headReg c5_2)) Try.prog M5 c5_2 E w (loopK B5_1 (blockK 0 [] (seqK (fun E w => cutB (findL M5.cuts (headReg c5_0)) Try.prog M5 c5_0 E w (retK Try.prog Try.f5.results.toList R) fun E => den Try.prog M5 c5_0 E w (retK Try.prog Try.f5.results.toList R)) (retK Try.prog Try.f5.results.toList R)))) fun E => den Try.prog M5 c5_2 E w (loopK B5_1 (blockK 0 [] (seqK (fun E w => cutB (findL M5.cuts (headReg c5_0)) Try.prog M5 c5_0 E w (retK Try.prog Try.f5.results.toList R) fun E => den Try.prog M5 c5_0 E w (retK Try.prog Try.f5.results.toList R)) (retK Try.prog Try.f5.results.toList R))))) (loopK B5_1 (blockK 0 [] (seqK (fun E w => cutB (findL M5.cuts (headReg c5_0)) Try.prog M5 c5_0 E w (retK Try.prog Try.f5.results.toList R) fun E => den Try.prog M5 c5_0 E w (retK Try.prog Try.f5.results.toList R)) (retK Try.prog Try.f5.results.toList R)))))
def k5_4 (B5_1 : Env → World → Prop) (R : Ending → World → Prop) : Cont := blockK 3 [0, 3, 5] (blockK 1 [0, 3, 5] (seqK (fun E w => cutB (findL M5.cuts (headReg c5_2)) Try.prog M5 c5_2 E w (loopK B5_1 (blockK 0 [] (seqK (fun E w => cutB (findL M5.cuts (headReg c5_0)) Try.prog M5 c5_0 E w (retK Try.prog Try.f5.results.toList R) fun E => den Try.prog M5 c5_0 E w (retK Try.prog Try.f5.results.toList R)) (retK Try.prog Try.f5.results.toList R)))) fun E => den Try.prog M5 c5_2 E w (loopK B5_1 (blockK 0 [] (seqK (fun E w => cutB (findL M5.cuts (headReg c5_0)) Try.prog M5 c5_0 E w (retK Try.prog Try.f5.results.toList R) fun E => den Try.prog M5 c5_0 E w (retK Try.prog Try.f5.results.toList R)) (retK Try.prog Try.f5.results.toList R))))) (loopK B5_1 (blockK 0 [] (seqK (fun E w => cutB (findL M5.cuts (headReg c5_0)) Try.prog M5 c5_0 E w (retK Try.prog Try.f5.results.toList R) fun E => den Try.prog M5 c5_0 E w (retK Try.prog Try.f5.results.toList R)) (retK Try.prog Try.f5.results.toList R))))))
theorem b5 : Try.f5.body = some c5 := by kernel_rfl
theorem n5 : Try.f5.ntmps = M5.N := by kernel_rfl
theorem u5 {p0_acts_a : Option Addr} {p0_acts_n : Nat} {p0_acts_c : Nat} {w : World} {R : Ending → World → Prop} (h : den Try.prog M5 c5 (argE 0 [(Value.slice p0_acts_a p0_acts_n p0_acts_c)]) w (retK Try.prog Try.f5.results.toList R)) : Calls Try.prog 5 #[(Value.slice p0_acts_a p0_acts_n p0_acts_c)] w R := calls_den okProg Try.func5 b5 n5 (Nat.le_of_ble_eq_true rfl) h
theorem t5 (p0_acts_a : Option Addr) (p0_acts_n : Nat) (p0_acts_c : Nat) (w : World) (R : Ending → World → Prop) : den Try.prog M5 c5 (argE 0 [(Value.slice p0_acts_a p0_acts_n p0_acts_c)]) w (retK Try.prog Try.f5.results.toList R) =
(Call Try.prog 7 [Value.int IntKind.i64 1024] w fun e w' =>
  ∃ p n,
    e = Ending.returned (Value.tuple #[Value.pointer p, Value.int IntKind.i64 n]) ∧
      ((n != (0 : Int)) = true → R (Ending.returned (Value.bool false)) w') ∧
        ((n != (0 : Int)) = false →
          Cut
            (WP Try.prog 125 (Code.loop c5_1) (e5_1 p0_acts_a p0_acts_n p0_acts_c p (0 : Int)) w' (k5_1 R)))) := by kernel_rfl
theorem t5_0  (w : World) (R : Ending → World → Prop) : den Try.prog M5 c5_0 (e5_0 ) w (k5_0 R) =
(Call Try.prog 11 [] w fun e w' =>
  ∃ b, e = Ending.returned (Value.bool b) ∧ R (Ending.returned (Value.bool b)) w') := by kernel_rfl
theorem t5_1 (p0_acts_a : Option Addr) (p0_acts_n : Nat) (p0_acts_c : Nat) (p3_q : Option Addr) (p5_i : Int) (w : World) (B5_1 : Env → World → Prop) (R : Ending → World → Prop) : den Try.prog M5 c5_1 (e5_1 p0_acts_a p0_acts_n p0_acts_c p3_q p5_i) w (loopK B5_1 (k5_1 R)) =
((decide (p5_i < (↑p0_acts_n : Int)) = true →
    (decide (p5_i < (150 : Int)) = true →
        ((0 : Int) ≤ p5_i ∧ p5_i < (↑p0_acts_n : Int)) ∧
          ∃ a,
            p0_acts_a = some a ∧
              ∃ n,
                World.cell? w (Addr.add (Addr.add a (Int.toNat p5_i * 3)) 0) =
                    some (Value.int IntKind.i64 n) ∧
                  (4 : Int) ≠ (0 : Int) ∧
                    ((Int.tmod n (4 : Int) == (0 : Int)) = true →
                        ∀ (w' : World),
                          World.heap w' = World.heap w →
                            World.os w' = World.os w →
                              World.tape w' = World.tape w →
                                World.output w' = World.output w →
                                  ((0 : Int) ≤ p5_i ∧ p5_i < (↑p0_acts_n : Int)) ∧
                                    ∃ a,
                                      p0_acts_a = some a ∧
                                        ∃ n,
                                          World.cell? w'
                                                (Addr.add (Addr.add a (Int.toNat p5_i * 3)) 1) =
                                              some (Value.int IntKind.i64 n) ∧
                                            ((0 : Int) ≤ p5_i ∧ p5_i < (↑p0_acts_n : Int)) ∧
                                              ∃ a,
                                                p0_acts_a = some a ∧
                                                  ∃ n_1,
                                                    World.cell? w'
                                                          (Addr.add (Addr.add a (Int.toNat p5_i * 3))
                                                            2) =
                                                        some (Value.int IntKind.i64 n_1) ∧
                                                      Call Try.prog 8
                                                        [Value.pointer p3_q, Value.int IntKind.i64 n,
                                                          Value.int IntKind.i64 n_1]
                                                        w' fun e w' =>
                                                        ∃ n,
                                                          e = Ending.returned (Value.int IntKind.i64 n) ∧
                                                            CutD Try.prog M5 c5_3
                                                              (e5_3 p0_acts_a p0_acts_n p0_acts_c p3_q p5_i) w'
                                                              (k5_3 B5_1 R)) ∧
                      ((Int.tmod n (4 : Int) == (0 : Int)) = false →
                        ((Int.tmod n (4 : Int) == (1 : Int)) = true →
                            Call Try.prog 13 [Value.pointer p3_q] w fun e w' =>
                              ∃ n,
                                e = Ending.returned (Value.int IntKind.i64 n) ∧
                                  CutD Try.prog M5 c5_3 (e5_3 p0_acts_a p0_acts_n p0_acts_c p3_q p5_i) w'
                                    (k5_3 B5_1 R)) ∧
                          ((Int.tmod n (4 : Int) == (1 : Int)) = false →
                            ((Int.tmod n (4 : Int) == (2 : Int)) = true →
                                ((0 : Int) ≤ p5_i ∧ p5_i < (↑p0_acts_n : Int)) ∧
                                  ∃ a,
                                    p0_acts_a = some a ∧
                                      ∃ n,
                                        World.cell? w (Addr.add (Addr.add a (Int.toNat p5_i * 3)) 2) =
                                            some (Value.int IntKind.i64 n) ∧
                                          Call Try.prog 21 [Value.pointer p3_q, Value.int IntKind.i64 n] w
                                            fun e w' =>
                                            ∃ n,
                                              e = Ending.returned (Value.int IntKind.i64 n) ∧
                                                CutD Try.prog M5 c5_3
                                                  (e5_3 p0_acts_a p0_acts_n p0_acts_c p3_q p5_i) w'
                                                  (k5_3 B5_1 R)) ∧
                              ((Int.tmod n (4 : Int) == (2 : Int)) = false →
                                ((0 : Int) ≤ p5_i ∧ p5_i < (↑p0_acts_n : Int)) ∧
                                  ∃ a,
                                    p0_acts_a = some a ∧
                                      ∃ n,
                                        World.cell? w (Addr.add (Addr.add a (Int.toNat p5_i * 3)) 2) =
                                            some (Value.int IntKind.i64 n) ∧
                                          Call Try.prog 22 [Value.pointer p3_q, Value.int IntKind.i64 n] w
                                            fun e w' =>
                                            ∃ n,
                                              e = Ending.returned (Value.int IntKind.i64 n) ∧
                                                CutD Try.prog M5 c5_3
                                                  (e5_3 p0_acts_a p0_acts_n p0_acts_c p3_q p5_i) w'
                                                  (k5_3 B5_1 R))))) ∧
      (decide (p5_i < (150 : Int)) = false → CutD Try.prog M5 c5_0 e5_0 w (k5_0 R))) ∧
  (decide (p5_i < (↑p0_acts_n : Int)) = false → CutD Try.prog M5 c5_0 e5_0 w (k5_0 R))) := by kernel_rfl
theorem t5_3 (p0_acts_a : Option Addr) (p0_acts_n : Nat) (p0_acts_c : Nat) (p3_q : Option Addr) (p5_i : Int) (w : World) (B5_1 : Env → World → Prop) (R : Ending → World → Prop) : den Try.prog M5 c5_3 (e5_3 p0_acts_a p0_acts_n p0_acts_c p3_q p5_i) w (k5_3 B5_1 R) =
(Call Try.prog 9 [Value.pointer p3_q] w fun e w' =>
  ∃ p n c,
    e = Ending.returned (Value.slice p n c) ∧
      Call Try.prog 10 [Value.pointer p3_q] w' fun e w' =>
        ∃ n_1 n_2,
          e = Ending.returned (Value.tuple #[Value.int IntKind.i64 n_1, Value.int IntKind.i64 n_2]) ∧
            (((↑n : Int) == (0 : Int)) = true →
                ((n_2 != (12 : Int)) = true → R (Ending.returned (Value.bool false)) w') ∧
                  ((n_2 != (12 : Int)) = false →
                    B5_1
                      [(0, SV.v (Value.slice p0_acts_a p0_acts_n p0_acts_c)),
                        (3, SV.v (Value.pointer p3_q)),
                        (5, SV.v (Value.int IntKind.i64 (IntKind.wrap IntKind.i64 (p5_i + (1 : Int)))))]
                      w')) ∧
              (((↑n : Int) == (0 : Int)) = false →
                Call Try.prog 12 [Value.pointer p3_q, Value.int IntKind.i64 n_1] w' fun e w' =>
                  ∃ n_3 b,
                    e = Ending.returned (Value.tuple #[Value.int IntKind.i64 n_3, Value.bool b]) ∧
                      ((n_2 != (0 : Int)) = false →
                          ((0 : Int) ≤ (0 : Int) ∧ (0 : Int) < (↑n : Int)) ∧
                            ∃ a,
                              p = some a ∧
                                ∃ n_4,
                                  World.cell? w' (Addr.add a 0) = some (Value.int IntKind.i64 n_4) ∧
                                    ((n_1 != n_4) = false →
                                        ((!b) = true → R (Ending.returned (Value.bool false)) w') ∧
                                          ((!b) = false →
                                            Cut
                                              (WP Try.prog 125 (Code.loop c5_4)
                                                (e5_4 p0_acts_a p0_acts_n p0_acts_c p3_q p5_i p n c n_3 (1 : Int))
                                                w' (k5_4 B5_1 R)))) ∧
                                      ((n_1 != n_4) = true → R (Ending.returned (Value.bool false)) w')) ∧
                        ((n_2 != (0 : Int)) = true → R (Ending.returned (Value.bool false)) w'))) := by kernel_rfl
theorem t5_4 (p0_acts_a : Option Addr) (p0_acts_n : Nat) (p0_acts_c : Nat) (p3_q : Option Addr) (p5_i : Int) (p6_l_a : Option Addr) (p6_l_n : Nat) (p6_l_c : Nat) (p9_p : Int) (p11_k : Int) (w : World) (B5_1 : Env → World → Prop) (B5_4 : Env → World → Prop) (R : Ending → World → Prop) : den Try.prog M5 c5_4 (e5_4 p0_acts_a p0_acts_n p0_acts_c p3_q p5_i p6_l_a p6_l_n p6_l_c p9_p p11_k) w (loopK B5_4 (k5_4 B5_1 R)) =
((decide (p11_k < (↑p6_l_n : Int)) = true →
    ((0 : Int) ≤ p11_k ∧ p11_k < (↑p6_l_n : Int)) ∧
      ∃ a,
        p6_l_a = some a ∧
          ∃ n,
            World.cell? w (Addr.add a (Int.toNat p11_k * 1)) = some (Value.int IntKind.i64 n) ∧
              Call Try.prog 12 [Value.pointer p3_q, Value.int IntKind.i64 n] w fun e w' =>
                ∃ n b,
                  e = Ending.returned (Value.tuple #[Value.int IntKind.i64 n, Value.bool b]) ∧
                    ((!b) = false →
                        (decide (n > p9_p) = true → R (Ending.returned (Value.bool false)) w') ∧
                          (decide (n > p9_p) = false →
                            B5_4
                              [(0, SV.v (Value.slice p0_acts_a p0_acts_n p0_acts_c)),
                                (3, SV.v (Value.pointer p3_q)),
                                (5, SV.v (Value.int IntKind.i64 p5_i)),
                                (6, SV.v (Value.slice p6_l_a p6_l_n p6_l_c)),
                                (9, SV.v (Value.int IntKind.i64 n)),
                                (11,
                                  SV.v (Value.int IntKind.i64 (IntKind.wrap IntKind.i64 (p11_k + (1 : Int)))))]
                              w')) ∧
                      ((!b) = true → R (Ending.returned (Value.bool false)) w')) ∧
  (decide (p11_k < (↑p6_l_n : Int)) = false →
    B5_1
      [(0, SV.v (Value.slice p0_acts_a p0_acts_n p0_acts_c)), (3, SV.v (Value.pointer p3_q)),
        (5, SV.v (Value.int IntKind.i64 (IntKind.wrap IntKind.i64 (p5_i + (1 : Int)))))]
      w)) := by kernel_rfl
/-! davit/davitlaw09.PrioNil -/
def M6 : Mt := { N := 65, keep := [(0, [0, 1]), (1, [0, 1, 5]), (2, [0, 1, 5, 7]), (3, [0, 1, 5, 7, 9]), (4, [4])], ords := [], bk := [], cuts := [], lk := [] }
noncomputable def c6 : Code := bodyOf Try.f6
theorem b6 : Try.f6.body = some c6 := by kernel_rfl
theorem n6 : Try.f6.ntmps = M6.N := by kernel_rfl
theorem u6 {p0_p : Int} {p1_id : Int} {w : World} {R : Ending → World → Prop} (h : den Try.prog M6 c6 (argE 0 [(Value.int IntKind.i64 p0_p), (Value.int IntKind.i64 p1_id)]) w (retK Try.prog Try.f6.results.toList R)) : Calls Try.prog 6 #[(Value.int IntKind.i64 p0_p), (Value.int IntKind.i64 p1_id)] w R := calls_den okProg Try.func6 b6 n6 (Nat.le_of_ble_eq_true rfl) h
theorem t6 (p0_p : Int) (p1_id : Int) (w : World) (R : Ending → World → Prop) : den Try.prog M6 c6 (argE 0 [(Value.int IntKind.i64 p0_p), (Value.int IntKind.i64 p1_id)]) w (retK Try.prog Try.f6.results.toList R) =
(Call Try.prog 10 [Value.pointer none] w fun e w' =>
  ∃ n n_1,
    e = Ending.returned (Value.tuple #[Value.int IntKind.i64 n, Value.int IntKind.i64 n_1]) ∧
      Call Try.prog 12 [Value.pointer none, Value.int IntKind.i64 p1_id] w' fun e w' =>
        ∃ n b,
          e = Ending.returned (Value.tuple #[Value.int IntKind.i64 n, Value.bool b]) ∧
            Call Try.prog 8 [Value.pointer none, Value.int IntKind.i64 p0_p, Value.int IntKind.i64 p1_id] w'
              fun e w' =>
              ∃ n,
                e = Ending.returned (Value.int IntKind.i64 n) ∧
                  ((n == (1 : Int)) = true →
                      ((n_1 == (1 : Int)) = true →
                          Call Try.prog 13 [Value.pointer none] w' fun e w' =>
                            ∃ n,
                              e = Ending.returned (Value.int IntKind.i64 n) ∧
                                ((n == (1 : Int)) = true →
                                    Call Try.prog 21 [Value.pointer none, Value.int IntKind.i64 p1_id] w'
                                      fun e w' =>
                                      ∃ n,
                                        e = Ending.returned (Value.int IntKind.i64 n) ∧
                                          ((n == (1 : Int)) = true →
                                              Call Try.prog 22
                                                [Value.pointer none, Value.int IntKind.i64 p1_id] w' fun e w' =>
                                                ∃ n,
                                                  e = Ending.returned (Value.int IntKind.i64 n) ∧
                                                    ((n == (1 : Int)) = true →
                                                        ((!b) = true →
                                                            Call Try.prog 19 [Value.pointer none] w' fun e w' =>
                                                              ∃ n,
                                                                e = Ending.returned (Value.int IntKind.i64 n) ∧
                                                                  ((n == (0 : Int)) = true →
                                                                      Call Try.prog 9 [Value.pointer none] w'
                                                                        fun e w' =>
                                                                        ∃ p n c,
                                                                          e = Ending.returned (Value.slice p n c) ∧
                                                                            (((↑n : Int) == (0 : Int)) = true →
                                                                                Call Try.prog 11 [] w'
                                                                                  fun e w' =>
                                                                                  ∃ b,
                                                                                    e = Ending.returned (Value.bool b) ∧
                                                                                      R
                                                                                        (Ending.returned (Value.bool b))
                                                                                        w') ∧
                                                                              (((↑n : Int) == (0 : Int)) = false →
                                                                                R (Ending.returned (Value.bool false))
                                                                                  w')) ∧
                                                                    ((n == (0 : Int)) = false →
                                                                      R (Ending.returned (Value.bool false)) w')) ∧
                                                          ((!b) = false → R (Ending.returned (Value.bool false)) w')) ∧
                                                      ((n == (1 : Int)) = false →
                                                        R (Ending.returned (Value.bool false)) w')) ∧
                                            ((n == (1 : Int)) = false → R (Ending.returned (Value.bool false)) w')) ∧
                                  ((n == (1 : Int)) = false → R (Ending.returned (Value.bool false)) w')) ∧
                        ((n_1 == (1 : Int)) = false → R (Ending.returned (Value.bool false)) w')) ∧
                    ((n == (1 : Int)) = false → R (Ending.returned (Value.bool false)) w')) := by kernel_rfl
/-! davit/prio.New -/
def M7 : Mt := { N := 31, keep := [(0, [0]), (1, [0, 4]), (2, [0, 4, 12]), (3, [0, 4, 12, 13]), (4, [0, 4, 5, 12]), (5, [0, 4, 5, 6, 7, 12]), (6, [0, 4, 5, 6, 7, 12, 21]), (7, [2, 3]), (8, [0, 4, 12]), (9, [0, 4, 12]), (10, [2, 3])], ords := [], bk := [(0, [4]), (1, [0, 4, 12])], cuts := [], lk := [(3, [0, 4, 12])] }
noncomputable def c7 : Code := bodyOf Try.f7
noncomputable def c7_0 : Code := c7.sr.sr.sr
noncomputable def c7_1 : Code := c7.sr.sr.sl.sr.sl.sl
def e7_1 (p0_most : Int) (p4_q : Option Addr) (p12_t : Int) : Env := [(0, SV.v (Value.int IntKind.i64 p0_most)), (4, SV.v (Value.pointer p4_q)), (12, SV.v (Value.int IntKind.i64 p12_t))]
def k7_1 (R : Ending → World → Prop) : Cont := blockK 0 [4] (seqK (fun E w => cutB (findL M7.cuts (headReg c7_0)) Try.prog M7 c7_0 E w (retK Try.prog Try.f7.results.toList R) fun E => den Try.prog M7 c7_0 E w (retK Try.prog Try.f7.results.toList R)) (retK Try.prog Try.f7.results.toList R))
theorem b7 : Try.f7.body = some c7 := by kernel_rfl
theorem n7 : Try.f7.ntmps = M7.N := by kernel_rfl
theorem u7 {p0_most : Int} {w : World} {R : Ending → World → Prop} (h : den Try.prog M7 c7 (argE 0 [(Value.int IntKind.i64 p0_most)]) w (retK Try.prog Try.f7.results.toList R)) : Calls Try.prog 7 #[(Value.int IntKind.i64 p0_most)] w R := calls_den okProg Try.func7 b7 n7 (Nat.le_of_ble_eq_true rfl) h
theorem t7 (p0_most : Int) (w : World) (R : Ending → World → Prop) : den Try.prog M7 c7 (argE 0 [(Value.int IntKind.i64 p0_most)]) w (retK Try.prog Try.f7.results.toList R) =
(NewMap w fun r w' =>
  New w'
    [Value.pointer none, Value.pointer none, Value.pointer none, Value.pointer none, Value.pointer none,
      Value.pointer none, Value.pointer none, Value.pointer none, Value.map (some r), Value.int IntKind.i64 p0_most]
    55 fun p w' => Cut (WP Try.prog 31 (Code.loop c7_1) (e7_1 p0_most (some p) (0 : Int)) w' (k7_1 R))) := by kernel_rfl
theorem t7_1 (p0_most : Int) (p4_q : Option Addr) (p12_t : Int) (w : World) (B7_1 : Env → World → Prop) (R : Ending → World → Prop) : den Try.prog M7 c7_1 (e7_1 p0_most p4_q p12_t) w (loopK B7_1 (k7_1 R)) =
((decide (p12_t < (8 : Int)) = true →
    Call Try.prog 23 [Value.int IntKind.i64 p0_most] w fun e w' =>
      ∃ p n,
        e = Ending.returned (Value.tuple #[Value.pointer p, Value.int IntKind.i64 n]) ∧
          ((n != (0 : Int)) = true →
              R (Ending.returned (Value.tuple #[Value.pointer none, Value.int IntKind.i64 n])) w') ∧
            ((n != (0 : Int)) = false →
              ∃ a,
                p4_q = some a ∧
                  ((0 : Int) ≤ p12_t ∧ p12_t < (↑8 : Int)) ∧
                    Wr w' (Addr.add (Addr.add a 0) (Int.toNat p12_t * 1)) [Value.pointer p] fun w' =>
                      B7_1
                        [(0, SV.v (Value.int IntKind.i64 p0_most)), (4, SV.v (Value.pointer p4_q)),
                          (12, SV.v (Value.int IntKind.i64 (IntKind.wrap IntKind.i64 (p12_t + (1 : Int)))))]
                        w')) ∧
  (decide (p12_t < (8 : Int)) = false →
    R (Ending.returned (Value.tuple #[Value.pointer p4_q, Value.int IntKind.i64 0])) w)) := by kernel_rfl
/-! (*davit/prio.Queue).Push -/
def M8 : Mt := { N := 54, keep := [(0, [0, 1, 2]), (1, [0, 1, 2, 10]), (2, [6]), (3, [0, 1, 2, 8]), (4, [0, 1, 2, 8, 20]), (5, [6]), (6, [0, 1, 2, 27]), (7, [6]), (8, [0, 1, 2, 29]), (9, [6]), (10, [0, 1, 2]), (11, [6])], ords := [(8, [0, 1, 2, 3, 4, 5, 6, 7, 8, 9, 10])], bk := [(0, [0, 1, 2])], cuts := [], lk := [] }
noncomputable def c8 : Code := bodyOf Try.f8
theorem b8 : Try.f8.body = some c8 := by kernel_rfl
theorem n8 : Try.f8.ntmps = M8.N := by kernel_rfl
theorem u8 {p0_q : Option Addr} {p1_prio : Int} {p2_id : Int} {w : World} {R : Ending → World → Prop} (h : den Try.prog M8 c8 (argE 0 [(Value.pointer p0_q), (Value.int IntKind.i64 p1_prio), (Value.int IntKind.i64 p2_id)]) w (retK Try.prog Try.f8.results.toList R)) : Calls Try.prog 8 #[(Value.pointer p0_q), (Value.int IntKind.i64 p1_prio), (Value.int IntKind.i64 p2_id)] w R := calls_den okProg Try.func8 b8 n8 (Nat.le_of_ble_eq_true rfl) h
theorem t8 (p0_q : Option Addr) (p1_prio : Int) (p2_id : Int) (w : World) (R : Ending → World → Prop) : den Try.prog M8 c8 (argE 0 [(Value.pointer p0_q), (Value.int IntKind.i64 p1_prio), (Value.int IntKind.i64 p2_id)]) w (retK Try.prog Try.f8.results.toList R) =
((Option.isNone p0_q = true → R (Ending.returned (Value.int IntKind.i64 1)) w) ∧
  (Option.isNone p0_q = false →
    ∃ a,
      p0_q = some a ∧
        ∃ r,
          World.cell? w (Addr.add a 8) = some (Value.map r) ∧
            ∃ n b,
              Sem.run Try.prog (Instr.lookup 51 (Value.map r) (Value.int IntKind.i64 p2_id) true) w =
                  Result.ok (Value.tuple #[Value.int IntKind.i64 n, Value.bool b]) w ∧
                (decide (p1_prio < (0 : Int)) = false →
                    (decide (p1_prio ≥ (8 : Int)) = true → R (Ending.returned (Value.int IntKind.i64 2)) w) ∧
                      (decide (p1_prio ≥ (8 : Int)) = false →
                        (b = true → R (Ending.returned (Value.int IntKind.i64 6)) w) ∧
                          (b = false →
                            ∀ (w' : World),
                              World.heap w' = World.heap w →
                                World.os w' = World.os w →
                                  World.tape w' = World.tape w →
                                    World.output w' = World.output w →
                                      ∃ a,
                                        p0_q = some a ∧
                                          ∃ r,
                                            World.cell? w' (Addr.add a 8) = some (Value.map r) ∧
                                              ∃ (n : Nat),
                                                (∀ (ty : TypeId),
                                                    Sem.run Try.prog (Builtin.len_ #[51] ty #[Value.map r]) w' =
                                                      Result.ok (Value.int IntKind.i64 (↑n : Int)) w') ∧
                                                  ∃ a,
                                                    p0_q = some a ∧
                                                      ∃ n_1,
                                                        World.cell? w' (Addr.add a 9) =
                                                            some (Value.int IntKind.i64 n_1) ∧
                                                          (decide ((↑n : Int) ≥ n_1) = true →
                                                              R (Ending.returned (Value.int IntKind.i64 5))
                                                                w') ∧
                                                            (decide ((↑n : Int) ≥ n_1) = false →
                                                              ∃ a,
                                                                p0_q = some a ∧
                                                                  ∃ r,
                                                                    World.cell? w' (Addr.add a 8) =
                                                                        some (Value.map r) ∧
                                                                      ∃ w'_1,
                                                                        Sem.run Try.prog
                                                                              (Instr.mapUpdate 51 (Value.map r)
                                                                                (Value.int IntKind.i64 p2_id)
                                                                                (Value.int IntKind.i64 p1_prio))
                                                                              w' =
                                                                            Result.ok () w'_1 ∧
                                                                          ∃ a,
                                                                            p0_q = some a ∧
                                                                              ((0 : Int) ≤ p1_prio ∧
                                                                                  p1_prio < (↑8 : Int)) ∧
                                                                                ∃ p,
                                                                                  World.cell? w'_1
                                                                                        (Addr.add (Addr.add a 0)
                                                                                          (Int.toNat p1_prio *
                                                                                            1)) =
                                                                                      some (Value.pointer p) ∧
                                                                                    Call Try.prog 24
                                                                                      [Value.pointer p,
                                                                                        Value.int IntKind.i64 p2_id]
                                                                                      w'_1 fun e w' =>
                                                                                      ∃ n,
                                                                                        e =
                                                                                            Ending.returned
                                                                                              (Value.int IntKind.i64
                                                                                                n) ∧
                                                                                          R
                                                                                            (Ending.returned
                                                                                              (Value.int IntKind.i64 n))
                                                                                            w')))) ∧
                  (decide (p1_prio < (0 : Int)) = true → R (Ending.returned (Value.int IntKind.i64 2)) w))) := by kernel_rfl
/-! (*davit/prio.Queue).Top -/
def M10 : Mt := { N := 18, keep := [(0, [0]), (1, [4, 5]), (2, [4, 5, 12]), (3, [2, 3]), (4, [2, 3])], ords := [], bk := [], cuts := [], lk := [] }
noncomputable def c10 : Code := bodyOf Try.f10
theorem b10 : Try.f10.body = some c10 := by kernel_rfl
theorem n10 : Try.f10.ntmps = M10.N := by kernel_rfl
theorem u10 {p0_q : Option Addr} {w : World} {R : Ending → World → Prop} (h : den Try.prog M10 c10 (argE 0 [(Value.pointer p0_q)]) w (retK Try.prog Try.f10.results.toList R)) : Calls Try.prog 10 #[(Value.pointer p0_q)] w R := calls_den okProg Try.func10 b10 n10 (Nat.le_of_ble_eq_true rfl) h
theorem t10 (p0_q : Option Addr) (w : World) (R : Ending → World → Prop) : den Try.prog M10 c10 (argE 0 [(Value.pointer p0_q)]) w (retK Try.prog Try.f10.results.toList R) =
(Call Try.prog 27 [Value.pointer p0_q] w fun e w' =>
  ∃ p n,
    e = Ending.returned (Value.tuple #[Value.pointer p, Value.int IntKind.i64 n]) ∧
      ((n != (0 : Int)) = true →
          R (Ending.returned (Value.tuple #[Value.int IntKind.i64 0, Value.int IntKind.i64 n])) w') ∧
        ((n != (0 : Int)) = false →
          Call Try.prog 28 [Value.pointer p] w' fun e w' =>
            ∃ n n_1,
              e = Ending.returned (Value.tuple #[Value.int IntKind.i64 n, Value.int IntKind.i64 n_1]) ∧
                R (Ending.returned (Value.tuple #[Value.int IntKind.i64 n, Value.int IntKind.i64 n_1])) w')) := by kernel_rfl
/-! davit/davitlaw09.known -/
def M11 : Mt := { N := 50, keep := [(0, []), (1, [1, 2]), (2, [1, 15]), (3, [0]), (4, [1]), (5, [1]), (6, [1]), (7, [1, 3]), (8, [1, 3, 4, 5]), (9, [0])], ords := [], bk := [], cuts := [], lk := [] }
noncomputable def c11 : Code := bodyOf Try.f11
theorem b11 : Try.f11.body = some c11 := by kernel_rfl
theorem n11 : Try.f11.ntmps = M11.N := by kernel_rfl
theorem u11  {w : World} {R : Ending → World → Prop} (h : den Try.prog M11 c11 (argE 0 []) w (retK Try.prog Try.f11.results.toList R)) : Calls Try.prog 11 #[] w R := calls_den okProg Try.func11 b11 n11 (Nat.le_of_ble_eq_true rfl) h
theorem t11  (w : World) (R : Ending → World → Prop) : den Try.prog M11 c11 (argE 0 []) w (retK Try.prog Try.f11.results.toList R) =
(Call Try.prog 7 [Value.int IntKind.i64 9] w fun e w' =>
  ∃ p n,
    e = Ending.returned (Value.tuple #[Value.pointer p, Value.int IntKind.i64 n]) ∧
      ((n != (0 : Int)) = false →
          (Option.isNone p = true → R (Ending.returned (Value.bool false)) w') ∧
            (Option.isNone p = false →
              Call Try.prog 8
                [Value.pointer p, Value.int IntKind.i64 1, Value.int IntKind.i64 5] w' fun e w' =>
                ∃ n,
                  e = Ending.returned (Value.int IntKind.i64 n) ∧
                    Call Try.prog 8
                      [Value.pointer p, Value.int IntKind.i64 3, Value.int IntKind.i64 6] w' fun e w' =>
                      ∃ n,
                        e = Ending.returned (Value.int IntKind.i64 n) ∧
                          Call Try.prog 8
                            [Value.pointer p, Value.int IntKind.i64 3, Value.int IntKind.i64 7] w'
                            fun e w' =>
                            ∃ n,
                              e = Ending.returned (Value.int IntKind.i64 n) ∧
                                Call Try.prog 13 [Value.pointer p] w' fun e w' =>
                                  ∃ n,
                                    e = Ending.returned (Value.int IntKind.i64 n) ∧
                                      Call Try.prog 10 [Value.pointer p] w' fun e w' =>
                                        ∃ n_1 n_2,
                                          e =
                                              Ending.returned
                                                (Value.tuple #[Value.int IntKind.i64 n_1, Value.int IntKind.i64 n_2]) ∧
                                            ((n == (0 : Int)) = true →
                                                ((n_1 == (7 : Int)) = true →
                                                    ((n_2 == (0 : Int)) = true →
                                                        Call Try.prog 9 [Value.pointer p] w' fun e w' =>
                                                          ∃ p_1 n c,
                                                            e = Ending.returned (Value.slice p_1 n c) ∧
                                                              New w'
                                                                [Value.int IntKind.i64 7,
                                                                  Value.int IntKind.i64 6,
                                                                  Value.int IntKind.i64 5]
                                                                3 fun p_2 w' =>
                                                                Call Try.prog 14
                                                                  [Value.slice p_1 n c,
                                                                    Value.slice (some p_2) 3 3]
                                                                  w' fun e w' =>
                                                                  ∃ b,
                                                                    e = Ending.returned (Value.bool b) ∧
                                                                      (b = true →
                                                                          Call Try.prog 19 [Value.pointer p] w'
                                                                            fun e w' =>
                                                                            ∃ n,
                                                                              e =
                                                                                  Ending.returned
                                                                                    (Value.int IntKind.i64 n) ∧
                                                                                R
                                                                                  (Ending.returned
                                                                                    (Value.bool (n == (3 : Int))))
                                                                                  w') ∧
                                                                        (b = false →
                                                                          R (Ending.returned (Value.bool false)) w')) ∧
                                                      ((n_2 == (0 : Int)) = false →
                                                        R (Ending.returned (Value.bool false)) w')) ∧
                                                  ((n_1 == (7 : Int)) = false →
                                                    R (Ending.returned (Value.bool false)) w')) ∧
                                              ((n == (0 : Int)) = false →
                                                R (Ending.returned (Value.bool false)) w'))) ∧
        ((n != (0 : Int)) = true → R (Ending.returned (Value.bool false)) w')) := by kernel_rfl
/-! (*davit/prio.Queue).Prio -/
def M12 : Mt := { N := 21, keep := [(0, [0, 1]), (1, [0, 1, 9]), (2, [4, 5]), (3, [6, 7]), (4, [4, 5])], ords := [], bk := [], cuts := [], lk := [] }
noncomputable def c12 : Code := bodyOf Try.f12
theorem b12 : Try.f12.body = some c12 := by kernel_rfl
theorem n12 : Try.f12.ntmps = M12.N := by kernel_rfl
theorem u12 {p0_q : Option Addr} {p1_id : Int} {w : World} {R : Ending → World → Prop} (h : den Try.prog M12 c12 (argE 0 [(Value.pointer p0_q), (Value.int IntKind.i64 p1_id)]) w (retK Try.prog Try.f12.results.toList R)) : Calls Try.prog 12 #[(Value.pointer p0_q), (Value.int IntKind.i64 p1_id)] w R := calls_den okProg Try.func12 b12 n12 (Nat.le_of_ble_eq_true rfl) h
theorem t12 (p0_q : Option Addr) (p1_id : Int) (w : World) (R : Ending → World → Prop) : den Try.prog M12 c12 (argE 0 [(Value.pointer p0_q), (Value.int IntKind.i64 p1_id)]) w (retK Try.prog Try.f12.results.toList R) =
((Option.isNone p0_q = true →
    R (Ending.returned (Value.tuple #[Value.int IntKind.i64 0, Value.bool false])) w) ∧
  (Option.isNone p0_q = false →
    ∃ a,
      p0_q = some a ∧
        ∃ r,
          World.cell? w (Addr.add a 8) = some (Value.map r) ∧
            ∃ n b,
              Sem.run Try.prog (Instr.lookup 51 (Value.map r) (Value.int IntKind.i64 p1_id) true) w =
                  Result.ok (Value.tuple #[Value.int IntKind.i64 n, Value.bool b]) w ∧
                R (Ending.returned (Value.tuple #[Value.int IntKind.i64 n, Value.bool b])) w)) := by kernel_rfl
/-! (*davit/prio.Queue).Turn -/
def M13 : Mt := { N := 15, keep := [(0, [0]), (1, [3, 4]), (2, [3, 4, 11]), (3, [2]), (4, [2])], ords := [], bk := [], cuts := [], lk := [] }
noncomputable def c13 : Code := bodyOf Try.f13
theorem b13 : Try.f13.body = some c13 := by kernel_rfl
theorem n13 : Try.f13.ntmps = M13.N := by kernel_rfl
theorem u13 {p0_q : Option Addr} {w : World} {R : Ending → World → Prop} (h : den Try.prog M13 c13 (argE 0 [(Value.pointer p0_q)]) w (retK Try.prog Try.f13.results.toList R)) : Calls Try.prog 13 #[(Value.pointer p0_q)] w R := calls_den okProg Try.func13 b13 n13 (Nat.le_of_ble_eq_true rfl) h
theorem t13 (p0_q : Option Addr) (w : World) (R : Ending → World → Prop) : den Try.prog M13 c13 (argE 0 [(Value.pointer p0_q)]) w (retK Try.prog Try.f13.results.toList R) =
(Call Try.prog 27 [Value.pointer p0_q] w fun e w' =>
  ∃ p n,
    e = Ending.returned (Value.tuple #[Value.pointer p, Value.int IntKind.i64 n]) ∧
      ((n != (0 : Int)) = true → R (Ending.returned (Value.int IntKind.i64 n)) w') ∧
        ((n != (0 : Int)) = false →
          Call Try.prog 29 [Value.pointer p] w' fun e w' =>
            ∃ n, e = Ending.returned (Value.int IntKind.i64 n) ∧ R (Ending.returned (Value.int IntKind.i64 n)) w')) := by kernel_rfl
/-! davit/davitref01.Ints -/
def M14 : Mt := { N := 26, keep := [(0, [0, 1]), (1, [0, 1, 10]), (2, [4]), (3, [0, 1, 5]), (4, [0, 1, 5, 14]), (5, [0, 1, 5]), (6, [0, 1, 5, 25]), (7, [4]), (8, [4])], ords := [(6, [0, 1, 2, 3, 4, 5, 6, 7, 8])], bk := [(0, []), (1, [0, 1, 5])], cuts := [], lk := [(4, [0, 1, 5])] }
noncomputable def c14 : Code := bodyOf Try.f14
noncomputable def c14_0 : Code := c14.sr.sr.sr
noncomputable def c14_1 : Code := c14.sr.sr.sl.sr.sl.sl
def e14_1 (p0_a_a : Option Addr) (p0_a_n : Nat) (p0_a_c : Nat) (p1_b_a : Option Addr) (p1_b_n : Nat) (p1_b_c : Nat) (p5_i : Int) : Env := [(0, SV.v (Value.slice p0_a_a p0_a_n p0_a_c)), (1, SV.v (Value.slice p1_b_a p1_b_n p1_b_c)), (5, SV.v (Value.int IntKind.i64 p5_i))]
def k14_1 (R : Ending → World → Prop) : Cont := blockK 0 [] (seqK (fun E w => cutB (findL M14.cuts (headReg c14_0)) Try.prog M14 c14_0 E w (retK Try.prog Try.f14.results.toList R) fun E => den Try.prog M14 c14_0 E w (retK Try.prog Try.f14.results.toList R)) (retK Try.prog Try.f14.results.toList R))
theorem b14 : Try.f14.body = some c14 := by kernel_rfl
theorem n14 : Try.f14.ntmps = M14.N := by kernel_rfl
theorem u14 {p0_a_a : Option Addr} {p0_a_n : Nat} {p0_a_c : Nat} {p1_b_a : Option Addr} {p1_b_n : Nat} {p1_b_c : Nat} {w : World} {R : Ending → World → Prop} (h : den Try.prog M14 c14 (argE 0 [(Value.slice p0_a_a p0_a_n p0_a_c), (Value.slice p1_b_a p1_b_n p1_b_c)]) w (retK Try.prog Try.f14.results.toList R)) : Calls Try.prog 14 #[(Value.slice p0_a_a p0_a_n p0_a_c), (Value.slice p1_b_a p1_b_n p1_b_c)] w R := calls_den okProg Try.func14 b14 n14 (Nat.le_of_ble_eq_true rfl) h
theorem t14 (p0_a_a : Option Addr) (p0_a_n : Nat) (p0_a_c : Nat) (p1_b_a : Option Addr) (p1_b_n : Nat) (p1_b_c : Nat) (w : World) (R : Ending → World → Prop) : den Try.prog M14 c14 (argE 0 [(Value.slice p0_a_a p0_a_n p0_a_c), (Value.slice p1_b_a p1_b_n p1_b_c)]) w (retK Try.prog Try.f14.results.toList R) =
((((↑p0_a_n : Int) != (↑p1_b_n : Int)) = true → R (Ending.returned (Value.bool false)) w) ∧
  (((↑p0_a_n : Int) != (↑p1_b_n : Int)) = false →
    Cut
      (WP Try.prog 26 (Code.loop c14_1) (e14_1 p0_a_a p0_a_n p0_a_c p1_b_a p1_b_n p1_b_c (0 : Int)) w
        (k14_1 R)))) := by kernel_rfl
theorem t14_1 (p0_a_a : Option Addr) (p0_a_n : Nat) (p0_a_c : Nat) (p1_b_a : Option Addr) (p1_b_n : Nat) (p1_b_c : Nat) (p5_i : Int) (w : World) (B14_1 : Env → World → Prop) (R : Ending → World → Prop) : den Try.prog M14 c14_1 (e14_1 p0_a_a p0_a_n p0_a_c p1_b_a p1_b_n p1_b_c p5_i) w (loopK B14_1 (k14_1 R)) =
((decide (p5_i < (↑p0_a_n : Int)) = true →
    ∀ (w' : World),
      World.heap w' = World.heap w →
        World.os w' = World.os w →
          World.tape w' = World.tape w →
            World.output w' = World.output w →
              ((0 : Int) ≤ p5_i ∧ p5_i < (↑p0_a_n : Int)) ∧
                ∃ a,
                  p0_a_a = some a ∧
                    ∃ n,
                      World.cell? w' (Addr.add a (Int.toNat p5_i * 1)) = some (Value.int IntKind.i64 n) ∧
                        ((0 : Int) ≤ p5_i ∧ p5_i < (↑p1_b_n : Int)) ∧
                          ∃ a,
                            p1_b_a = some a ∧
                              ∃ n_1,
                                World.cell? w' (Addr.add a (Int.toNat p5_i * 1)) =
                                    some (Value.int IntKind.i64 n_1) ∧
                                  ((n != n_1) = true → R (Ending.returned (Value.bool false)) w') ∧
                                    ((n != n_1) = false →
                                      B14_1
                                        [(0, SV.v (Value.slice p0_a_a p0_a_n p0_a_c)),
                                          (1, SV.v (Value.slice p1_b_a p1_b_n p1_b_c)),
                                          (5,
                                            SV.v
                                              (Value.int IntKind.i64 (IntKind.wrap IntKind.i64 (p5_i + (1 : Int)))))]
                                        w')) ∧
  (decide (p5_i < (↑p0_a_n : Int)) = false → R (Ending.returned (Value.bool true)) w)) := by kernel_rfl
/-! davit/davitref09.New -/
def M15 : Mt := { N := 13, keep := [(0, [0]), (1, [0, 9]), (2, [2, 3]), (3, [2, 3])], ords := [], bk := [], cuts := [], lk := [] }
noncomputable def c15 : Code := bodyOf Try.f15
theorem b15 : Try.f15.body = some c15 := by kernel_rfl
theorem n15 : Try.f15.ntmps = M15.N := by kernel_rfl
theorem u15 {p0_most : Int} {w : World} {R : Ending → World → Prop} (h : den Try.prog M15 c15 (argE 0 [(Value.int IntKind.i64 p0_most)]) w (retK Try.prog Try.f15.results.toList R)) : Calls Try.prog 15 #[(Value.int IntKind.i64 p0_most)] w R := calls_den okProg Try.func15 b15 n15 (Nat.le_of_ble_eq_true rfl) h
theorem t15 (p0_most : Int) (w : World) (R : Ending → World → Prop) : den Try.prog M15 c15 (argE 0 [(Value.int IntKind.i64 p0_most)]) w (retK Try.prog Try.f15.results.toList R) =
((decide (p0_most < (1 : Int)) = false →
    (decide (p0_most > (1024 : Int)) = true →
        R (Ending.returned (Value.tuple #[Value.pointer none, Value.int IntKind.i64 2])) w) ∧
      (decide (p0_most > (1024 : Int)) = false →
        New w [Value.int IntKind.i64 p0_most, Value.slice none 0 0] 47 fun p w' =>
          R (Ending.returned (Value.tuple #[Value.pointer (some p), Value.int IntKind.i64 0])) w')) ∧
  (decide (p0_most < (1 : Int)) = true →
    R (Ending.returned (Value.tuple #[Value.pointer none, Value.int IntKind.i64 2])) w)) := by kernel_rfl
/-! davit/davitlaw09.do -/
def M16 : Mt := { N := 52, keep := [(0, [0, 1, 5]), (1, [0, 1, 5, 9]), (2, [6]), (3, [0, 1, 5, 9, 19]), (4, [6]), (5, [0, 1, 5, 9, 34]), (6, [6]), (7, [0, 1, 5, 41]), (8, [6])], ords := [(2, [0, 1, 2, 4, 5, 6, 3, 7, 8, 9]), (4, [0, 1, 2, 3, 4, 6, 7, 8, 9, 10, 5, 11, 12, 13]), (8, [0, 1, 2, 4, 5, 6, 3, 7, 8, 9])], bk := [(0, [6])], cuts := [], lk := [] }
noncomputable def c16 : Code := bodyOf Try.f16
theorem b16 : Try.f16.body = some c16 := by kernel_rfl
theorem n16 : Try.f16.ntmps = M16.N := by kernel_rfl
theorem u16 {p0_q : Option Addr} {p1_r : Option Addr} {p2_a_0 : Int} {p2_a_1 : Int} {p2_a_2 : Int} {w : World} {R : Ending → World → Prop} (h : den Try.prog M16 c16 (argE 0 [(Value.pointer p0_q), (Value.pointer p1_r), (Value.agg #[(Value.int IntKind.i64 p2_a_0), (Value.int IntKind.i64 p2_a_1), (Value.int IntKind.i64 p2_a_2)])]) w (retK Try.prog Try.f16.results.toList R)) : Calls Try.prog 16 #[(Value.pointer p0_q), (Value.pointer p1_r), (Value.agg #[(Value.int IntKind.i64 p2_a_0), (Value.int IntKind.i64 p2_a_1), (Value.int IntKind.i64 p2_a_2)])] w R := calls_den okProg Try.func16 b16 n16 (Nat.le_of_ble_eq_true rfl) h
theorem t16 (p0_q : Option Addr) (p1_r : Option Addr) (p2_a_0 : Int) (p2_a_1 : Int) (p2_a_2 : Int) (w : World) (R : Ending → World → Prop) : den Try.prog M16 c16 (argE 0 [(Value.pointer p0_q), (Value.pointer p1_r), (Value.agg #[(Value.int IntKind.i64 p2_a_0), (Value.int IntKind.i64 p2_a_1), (Value.int IntKind.i64 p2_a_2)])]) w (retK Try.prog Try.f16.results.toList R) =
(New w [Value.int IntKind.i64 p2_a_0, Value.int IntKind.i64 p2_a_1, Value.int IntKind.i64 p2_a_2] 29
  fun p w' =>
  ∃ n,
    World.cell? w' (Addr.add p 0) = some (Value.int IntKind.i64 n) ∧
      (4 : Int) ≠ (0 : Int) ∧
        ((Int.tmod n (4 : Int) == (0 : Int)) = true →
            ∀ (w'_1 : World),
              World.heap w'_1 = World.heap w' →
                World.os w'_1 = World.os w' →
                  World.tape w'_1 = World.tape w' →
                    World.output w'_1 = World.output w' →
                      ∃ n,
                        World.cell? w'_1 (Addr.add p 1) = some (Value.int IntKind.i64 n) ∧
                          ∃ n_1,
                            World.cell? w'_1 (Addr.add p 2) = some (Value.int IntKind.i64 n_1) ∧
                              ∃ n_2,
                                World.cell? w'_1 (Addr.add p 1) = some (Value.int IntKind.i64 n_2) ∧
                                  ∃ n_3,
                                    World.cell? w'_1 (Addr.add p 2) = some (Value.int IntKind.i64 n_3) ∧
                                      Call Try.prog 8
                                        [Value.pointer p0_q, Value.int IntKind.i64 n, Value.int IntKind.i64 n_1] w'_1
                                        fun e w' =>
                                        ∃ n,
                                          e = Ending.returned (Value.int IntKind.i64 n) ∧
                                            World.cell? w' (Addr.add p 2) = some (Value.int IntKind.i64 n_3) ∧
                                              World.cell? w' (Addr.add p 1) = some (Value.int IntKind.i64 n_2) ∧
                                                Call Try.prog 30
                                                  [Value.pointer p1_r, Value.int IntKind.i64 n_2,
                                                    Value.int IntKind.i64 n_3]
                                                  w' fun e w' =>
                                                  ∃ n_4,
                                                    e = Ending.returned (Value.int IntKind.i64 n_4) ∧
                                                      R (Ending.returned (Value.bool (n == n_4))) w') ∧
          ((Int.tmod n (4 : Int) == (0 : Int)) = false →
            ((Int.tmod n (4 : Int) == (1 : Int)) = true →
                Call Try.prog 13 [Value.pointer p0_q] w' fun e w' =>
                  ∃ n,
                    e = Ending.returned (Value.int IntKind.i64 n) ∧
                      Call Try.prog 31 [Value.pointer p1_r] w' fun e w' =>
                        ∃ n_1,
                          e = Ending.returned (Value.int IntKind.i64 n_1) ∧
                            R (Ending.returned (Value.bool (n == n_1))) w') ∧
              ((Int.tmod n (4 : Int) == (1 : Int)) = false →
                ((Int.tmod n (4 : Int) == (2 : Int)) = true →
                    ∀ (w'_1 : World),
                      World.heap w'_1 = World.heap w' →
                        World.os w'_1 = World.os w' →
                          World.tape w'_1 = World.tape w' →
                            World.output w'_1 = World.output w' →
                              ∃ n,
                                World.cell? w'_1 (Addr.add p 2) = some (Value.int IntKind.i64 n) ∧
                                  ∃ n_1,
                                    World.cell? w'_1 (Addr.add p 2) = some (Value.int IntKind.i64 n_1) ∧
                                      Call Try.prog 21 [Value.pointer p0_q, Value.int IntKind.i64 n] w'_1
                                        fun e w' =>
                                        ∃ n,
                                          e = Ending.returned (Value.int IntKind.i64 n) ∧
                                            World.cell? w' (Addr.add p 2) = some (Value.int IntKind.i64 n_1) ∧
                                              Call Try.prog 32 [Value.pointer p1_r, Value.int IntKind.i64 n_1]
                                                w' fun e w' =>
                                                ∃ n_2,
                                                  e = Ending.returned (Value.int IntKind.i64 n_2) ∧
                                                    R (Ending.returned (Value.bool (n == n_2))) w') ∧
                  ((Int.tmod n (4 : Int) == (2 : Int)) = false →
                    ∀ (w'_1 : World),
                      World.heap w'_1 = World.heap w' →
                        World.os w'_1 = World.os w' →
                          World.tape w'_1 = World.tape w' →
                            World.output w'_1 = World.output w' →
                              ∃ n,
                                World.cell? w'_1 (Addr.add p 2) = some (Value.int IntKind.i64 n) ∧
                                  ∃ n_1,
                                    World.cell? w'_1 (Addr.add p 2) = some (Value.int IntKind.i64 n_1) ∧
                                      Call Try.prog 22 [Value.pointer p0_q, Value.int IntKind.i64 n] w'_1
                                        fun e w' =>
                                        ∃ n,
                                          e = Ending.returned (Value.int IntKind.i64 n) ∧
                                            World.cell? w' (Addr.add p 2) = some (Value.int IntKind.i64 n_1) ∧
                                              Call Try.prog 33 [Value.pointer p1_r, Value.int IntKind.i64 n_1]
                                                w' fun e w' =>
                                                ∃ n_2,
                                                  e = Ending.returned (Value.int IntKind.i64 n_2) ∧
                                                    R (Ending.returned (Value.bool (n == n_2))) w')))) := by kernel_rfl
/-! (*davit/davitref09.Queue).Top -/
def M17 : Mt := { N := 13, keep := [(0, [0]), (1, [4]), (2, [4, 9]), (3, [2, 3]), (4, [2, 3])], ords := [], bk := [], cuts := [], lk := [] }
noncomputable def c17 : Code := bodyOf Try.f17
theorem b17 : Try.f17.body = some c17 := by kernel_rfl
theorem n17 : Try.f17.ntmps = M17.N := by kernel_rfl
theorem u17 {p0_q : Option Addr} {w : World} {R : Ending → World → Prop} (h : den Try.prog M17 c17 (argE 0 [(Value.pointer p0_q)]) w (retK Try.prog Try.f17.results.toList R)) : Calls Try.prog 17 #[(Value.pointer p0_q)] w R := calls_den okProg Try.func17 b17 n17 (Nat.le_of_ble_eq_true rfl) h
theorem t17 (p0_q : Option Addr) (w : World) (R : Ending → World → Prop) : den Try.prog M17 c17 (argE 0 [(Value.pointer p0_q)]) w (retK Try.prog Try.f17.results.toList R) =
(Call Try.prog 20 [Value.pointer p0_q] w fun e w' =>
  ∃ p n c,
    e = Ending.returned (Value.slice p n c) ∧
      (((↑n : Int) == (0 : Int)) = true →
          R (Ending.returned (Value.tuple #[Value.int IntKind.i64 0, Value.int IntKind.i64 12])) w') ∧
        (((↑n : Int) == (0 : Int)) = false →
          ((0 : Int) ≤ (0 : Int) ∧ (0 : Int) < (↑n : Int)) ∧
            ∃ a,
              p = some a ∧
                ∃ n,
                  World.cell? w' (Addr.add a 0) = some (Value.int IntKind.i64 n) ∧
                    R (Ending.returned (Value.tuple #[Value.int IntKind.i64 n, Value.int IntKind.i64 0])) w')) := by kernel_rfl
/-! (*davit/davitref09.Queue).Prio -/
def M18 : Mt := { N := 20, keep := [(0, [0, 1]), (1, [0, 6]), (2, [0, 6, 11]), (3, [4, 5]), (4, [4, 5])], ords := [], bk := [], cuts := [], lk := [] }
noncomputable def c18 : Code := bodyOf Try.f18
theorem b18 : Try.f18.body = some c18 := by kernel_rfl
theorem n18 : Try.f18.ntmps = M18.N := by kernel_rfl
theorem u18 {p0_q : Option Addr} {p1_id : Int} {w : World} {R : Ending → World → Prop} (h : den Try.prog M18 c18 (argE 0 [(Value.pointer p0_q), (Value.int IntKind.i64 p1_id)]) w (retK Try.prog Try.f18.results.toList R)) : Calls Try.prog 18 #[(Value.pointer p0_q), (Value.int IntKind.i64 p1_id)] w R := calls_den okProg Try.func18 b18 n18 (Nat.le_of_ble_eq_true rfl) h
theorem t18 (p0_q : Option Addr) (p1_id : Int) (w : World) (R : Ending → World → Prop) : den Try.prog M18 c18 (argE 0 [(Value.pointer p0_q), (Value.int IntKind.i64 p1_id)]) w (retK Try.prog Try.f18.results.toList R) =
(Call Try.prog 34 [Value.pointer p0_q, Value.int IntKind.i64 p1_id] w fun e w' =>
  ∃ n,
    e = Ending.returned (Value.int IntKind.i64 n) ∧
      (decide (n < (0 : Int)) = true →
          R (Ending.returned (Value.tuple #[Value.int IntKind.i64 0, Value.bool false])) w') ∧
        (decide (n < (0 : Int)) = false →
          ∃ a,
            p0_q = some a ∧
              ∃ p n_1 c,
                World.cell? w' (Addr.add a 1) = some (Value.slice p n_1 c) ∧
                  ((0 : Int) ≤ n ∧ n < (↑n_1 : Int)) ∧
                    ∃ a,
                      p = some a ∧
                        ∃ n_2,
                          World.cell? w' (Addr.add (Addr.add a (Int.toNat n * 2)) 0) =
                              some (Value.int IntKind.i64 n_2) ∧
                            R (Ending.returned (Value.tuple #[Value.int IntKind.i64 n_2, Value.bool true])) w')) := by kernel_rfl
/-! (*davit/prio.Queue).Len -/
def M19 : Mt := { N := 10, keep := [(0, [0]), (1, [0, 4]), (2, [2]), (3, [2])], ords := [], bk := [], cuts := [], lk := [] }
noncomputable def c19 : Code := bodyOf Try.f19
theorem b19 : Try.f19.body = some c19 := by kernel_rfl
theorem n19 : Try.f19.ntmps = M19.N := by kernel_rfl
theorem u19 {p0_q : Option Addr} {w : World} {R : Ending → World → Prop} (h : den Try.prog M19 c19 (argE 0 [(Value.pointer p0_q)]) w (retK Try.prog Try.f19.results.toList R)) : Calls Try.prog 19 #[(Value.pointer p0_q)] w R := calls_den okProg Try.func19 b19 n19 (Nat.le_of_ble_eq_true rfl) h
theorem t19 (p0_q : Option Addr) (w : World) (R : Ending → World → Prop) : den Try.prog M19 c19 (argE 0 [(Value.pointer p0_q)]) w (retK Try.prog Try.f19.results.toList R) =
((Option.isNone p0_q = true → R (Ending.returned (Value.int IntKind.i64 0)) w) ∧
  (Option.isNone p0_q = false →
    ∃ a,
      p0_q = some a ∧
        ∃ r,
          World.cell? w (Addr.add a 8) = some (Value.map r) ∧
            ∃ (n : Nat),
              (∀ (ty : TypeId),
                  Sem.run Try.prog (Builtin.len_ #[51] ty #[Value.map r]) w =
                    Result.ok (Value.int IntKind.i64 (↑n : Int)) w) ∧
                R (Ending.returned (Value.int IntKind.i64 (↑n : Int))) w)) := by kernel_rfl
/-! (*davit/davitref09.Queue).List -/
def M20 : Mt := { N := 41, keep := [(0, [0]), (1, [0, 3]), (2, [0, 3, 4]), (3, [0, 3, 4, 7]), (4, [0, 3, 4]), (5, [0, 3, 4, 5]), (6, [0, 3, 4, 5, 16]), (7, [0, 3, 4, 5]), (8, [0, 3, 4, 5, 28]), (9, [0, 3, 4, 5]), (10, [2])], ords := [], bk := [(0, [3]), (1, [0, 3, 4]), (2, [0, 3, 4]), (3, [0, 3, 4, 5])], cuts := [], lk := [(3, [0, 3, 4]), (6, [0, 3, 4, 5])] }
noncomputable def c20 : Code := bodyOf Try.f20
noncomputable def c20_0 : Code := c20.sr.sr.sr
noncomputable def c20_1 : Code := c20.sr.sr.sl.sr.sl.sl
noncomputable def c20_2 : Code := c20.sr.sr.sl.sr.sl.sl.sr.sr
noncomputable def c20_3 : Code := c20.sr.sr.sl.sr.sl.sl.sr.sl.sl.sr.sl.sl
def e20_1 (p0_q : Option Addr) (p3_out_a : Option Addr) (p3_out_n : Nat) (p3_out_c : Nat) (p4_p : Int) : Env := [(0, SV.v (Value.pointer p0_q)), (3, SV.v (Value.slice p3_out_a p3_out_n p3_out_c)), (4, SV.v (Value.int IntKind.i64 p4_p))]
def e20_3 (p0_q : Option Addr) (p3_out_a : Option Addr) (p3_out_n : Nat) (p3_out_c : Nat) (p4_p : Int) (p5_i : Int) : Env := [(0, SV.v (Value.pointer p0_q)), (3, SV.v (Value.slice p3_out_a p3_out_n p3_out_c)), (4, SV.v (Value.int IntKind.i64 p4_p)), (5, SV.v (Value.int IntKind.i64 p5_i))]
def k20_1 (R : Ending → World → Prop) : Cont := blockK 0 [3] (seqK (fun E w => cutB (findL M20.cuts (headReg c20_0)) Try.prog M20 c20_0 E w (retK Try.prog Try.f20.results.toList R) fun E => den Try.prog M20 c20_0 E w (retK Try.prog Try.f20.results.toList R)) (retK Try.prog Try.f20.results.toList R))
def k20_3 (B20_1 : Env → World → Prop) (R : Ending → World → Prop) : Cont := blockK 2 [0, 3, 4] (blockK 1 [0, 3, 4] (seqK (fun E w => cutB (findL M20.cuts (headReg c20_2)) Try.prog M20 c20_2 E w (loopK B20_1 (blockK 0 [3] (seqK (fun E w => cutB (findL M20.cuts (headReg c20_0)) Try.prog M20 c20_0 E w (retK Try.prog Try.f20.results.toList R) fun E => den Try.prog M20 c20_0 E w (retK Try.prog Try.f20.results.toList R)) (retK Try.prog Try.f20.results.toList R)))) fun E => den Try.prog M20 c20_2 E w (loopK B20_1 (blockK 0 [3] (seqK (fun E w => cutB (findL M20.cuts (headReg c20_0)) Try.prog M20 c20_0 E w (retK Try.prog Try.f20.results.toList R) fun E => den Try.prog M20 c20_0 E w (retK Try.prog Try.f20.results.toList R)) (retK Try.prog Try.f20.results.toList R))))) (loopK B20_1 (blockK 0 [3] (seqK (fun E w => cutB (findL M20.cuts (headReg c20_0)) Try.prog M20 c20_0 E w (retK Try.prog Try.f20.results.toList R) fun E => den Try.prog M20 c20_0 E w (retK Try.prog Try.f20.results.toList R)) (retK Try.prog Try.f20.results.toList R))))))
theorem b20 : Try.f20.body = some c20 := by kernel_rfl
theorem n20 : Try.f20.ntmps = M20.N := by kernel_rfl
theorem u20 {p0_q : Option Addr} {w : World} {R : Ending → World → Prop} (h : den Try.prog M20 c20 (argE 0 [(Value.pointer p0_q)]) w (retK Try.prog Try.f20.results.toList R)) : Calls Try.prog 20 #[(Value.pointer p0_q)] w R := calls_den okProg Try.func20 b20 n20 (Nat.le_of_ble_eq_true rfl) h
theorem t20 (p0_q : Option Addr) (w : World) (R : Ending → World → Prop) : den Try.prog M20 c20 (argE 0 [(Value.pointer p0_q)]) w (retK Try.prog Try.f20.results.toList R) =
(Cut (WP Try.prog 41 (Code.loop c20_1) (e20_1 p0_q none 0 0 (7 : Int)) w (k20_1 R))) := by kernel_rfl
theorem t20_1 (p0_q : Option Addr) (p3_out_a : Option Addr) (p3_out_n : Nat) (p3_out_c : Nat) (p4_p : Int) (w : World) (B20_1 : Env → World → Prop) (R : Ending → World → Prop) : den Try.prog M20 c20_1 (e20_1 p0_q p3_out_a p3_out_n p3_out_c p4_p) w (loopK B20_1 (k20_1 R)) =
((decide (p4_p ≥ (0 : Int)) = true →
    Cut
      (WP Try.prog 41 (Code.loop c20_3) (e20_3 p0_q p3_out_a p3_out_n p3_out_c p4_p (0 : Int)) w
        (k20_3 B20_1 R))) ∧
  (decide (p4_p ≥ (0 : Int)) = false → R (Ending.returned (Value.slice p3_out_a p3_out_n p3_out_c)) w)) := by kernel_rfl
theorem t20_3 (p0_q : Option Addr) (p3_out_a : Option Addr) (p3_out_n : Nat) (p3_out_c : Nat) (p4_p : Int) (p5_i : Int) (w : World) (B20_1 : Env → World → Prop) (B20_3 : Env → World → Prop) (R : Ending → World → Prop) : den Try.prog M20 c20_3 (e20_3 p0_q p3_out_a p3_out_n p3_out_c p4_p p5_i) w (loopK B20_3 (k20_3 B20_1 R)) =
(∃ a,
  p0_q = some a ∧
    ∃ p n c,
      World.cell? w (Addr.add a 1) = some (Value.slice p n c) ∧
        (decide (p5_i < (↑n : Int)) = true →
            ∃ a,
              p0_q = some a ∧
                ∃ p n c,
                  World.cell? w (Addr.add a 1) = some (Value.slice p n c) ∧
                    ((0 : Int) ≤ p5_i ∧ p5_i < (↑n : Int)) ∧
                      ∃ a,
                        p = some a ∧
                          ∃ n,
                            World.cell? w (Addr.add (Addr.add a (Int.toNat p5_i * 2)) 0) =
                                some (Value.int IntKind.i64 n) ∧
                              ((n == p4_p) = true →
                                  ∃ a,
                                    p0_q = some a ∧
                                      ∃ p n c,
                                        World.cell? w (Addr.add a 1) = some (Value.slice p n c) ∧
                                          ((0 : Int) ≤ p5_i ∧ p5_i < (↑n : Int)) ∧
                                            ∃ a,
                                              p = some a ∧
                                                ∃ n,
                                                  World.cell? w
                                                        (Addr.add (Addr.add a (Int.toNat p5_i * 2))
                                                          1) =
                                                      some (Value.int IntKind.i64 n) ∧
                                                    New w [Value.int IntKind.i64 n] 3 fun p w' =>
                                                      ∃ p_1 n c w'_1,
                                                        Sem.run Try.prog
                                                              (Builtin.append_ #[30, 30] 30
                                                                #[Value.slice p3_out_a p3_out_n p3_out_c,
                                                                  Value.slice (some p) 1 1])
                                                              w' =
                                                            Result.ok (Value.slice p_1 n c) w'_1 ∧
                                                          B20_3
                                                            [(0, SV.v (Value.pointer p0_q)),
                                                              (3, SV.v (Value.slice p_1 n c)),
                                                              (4, SV.v (Value.int IntKind.i64 p4_p)),
                                                              (5,
                                                                SV.v
                                                                  (Value.int IntKind.i64
                                                                    (IntKind.wrap IntKind.i64 (p5_i + (1 : Int)))))]
                                                            w'_1) ∧
                                ((n == p4_p) = false →
                                  B20_3
                                    [(0, SV.v (Value.pointer p0_q)),
                                      (3, SV.v (Value.slice p3_out_a p3_out_n p3_out_c)),
                                      (4, SV.v (Value.int IntKind.i64 p4_p)),
                                      (5,
                                        SV.v (Value.int IntKind.i64 (IntKind.wrap IntKind.i64 (p5_i + (1 : Int)))))]
                                    w)) ∧
          (decide (p5_i < (↑n : Int)) = false →
            B20_1
              [(0, SV.v (Value.pointer p0_q)), (3, SV.v (Value.slice p3_out_a p3_out_n p3_out_c)),
                (4, SV.v (Value.int IntKind.i64 (IntKind.wrap IntKind.i64 (p4_p - (1 : Int)))))]
              w)) := by kernel_rfl
/-! (*davit/prio.Queue).Back -/
def M21 : Mt := { N := 24, keep := [(0, [0, 1]), (1, [0, 1, 5]), (2, [0, 1, 5, 7]), (3, [0, 1, 5, 7, 18]), (4, [4]), (5, [4])], ords := [], bk := [], cuts := [], lk := [] }
noncomputable def c21 : Code := bodyOf Try.f21
theorem b21 : Try.f21.body = some c21 := by kernel_rfl
theorem n21 : Try.f21.ntmps = M21.N := by kernel_rfl
theorem u21 {p0_q : Option Addr} {p1_id : Int} {w : World} {R : Ending → World → Prop} (h : den Try.prog M21 c21 (argE 0 [(Value.pointer p0_q), (Value.int IntKind.i64 p1_id)]) w (retK Try.prog Try.f21.results.toList R)) : Calls Try.prog 21 #[(Value.pointer p0_q), (Value.int IntKind.i64 p1_id)] w R := calls_den okProg Try.func21 b21 n21 (Nat.le_of_ble_eq_true rfl) h
theorem t21 (p0_q : Option Addr) (p1_id : Int) (w : World) (R : Ending → World → Prop) : den Try.prog M21 c21 (argE 0 [(Value.pointer p0_q), (Value.int IntKind.i64 p1_id)]) w (retK Try.prog Try.f21.results.toList R) =
(Call Try.prog 12 [Value.pointer p0_q, Value.int IntKind.i64 p1_id] w fun e w' =>
  ∃ n b,
    e = Ending.returned (Value.tuple #[Value.int IntKind.i64 n, Value.bool b]) ∧
      Call Try.prog 22 [Value.pointer p0_q, Value.int IntKind.i64 p1_id] w' fun e w' =>
        ∃ n_1,
          e = Ending.returned (Value.int IntKind.i64 n_1) ∧
            ((n_1 != (0 : Int)) = true → R (Ending.returned (Value.int IntKind.i64 n_1)) w') ∧
              ((n_1 != (0 : Int)) = false →
                Call Try.prog 8 [Value.pointer p0_q, Value.int IntKind.i64 n, Value.int IntKind.i64 p1_id] w'
                  fun e w' =>
                  ∃ n,
                    e = Ending.returned (Value.int IntKind.i64 n) ∧ R (Ending.returned (Value.int IntKind.i64 n)) w')) := by kernel_rfl
/-! (*davit/prio.Queue).Drop -/
def M22 : Mt := { N := 33, keep := [(0, [0, 1]), (1, [0, 1, 8]), (2, [4]), (3, [0, 1, 5, 6]), (4, [0, 1, 5, 19]), (5, [4]), (6, [0, 1, 5]), (7, [4])], ords := [], bk := [], cuts := [], lk := [] }
noncomputable def c22 : Code := bodyOf Try.f22
theorem b22 : Try.f22.body = some c22 := by kernel_rfl
theorem n22 : Try.f22.ntmps = M22.N := by kernel_rfl
theorem u22 {p0_q : Option Addr} {p1_id : Int} {w : World} {R : Ending → World → Prop} (h : den Try.prog M22 c22 (argE 0 [(Value.pointer p0_q), (Value.int IntKind.i64 p1_id)]) w (retK Try.prog Try.f22.results.toList R)) : Calls Try.prog 22 #[(Value.pointer p0_q), (Value.int IntKind.i64 p1_id)] w R := calls_den okProg Try.func22 b22 n22 (Nat.le_of_ble_eq_true rfl) h
theorem t22 (p0_q : Option Addr) (p1_id : Int) (w : World) (R : Ending → World → Prop) : den Try.prog M22 c22 (argE 0 [(Value.pointer p0_q), (Value.int IntKind.i64 p1_id)]) w (retK Try.prog Try.f22.results.toList R) =
((Option.isNone p0_q = true → R (Ending.returned (Value.int IntKind.i64 1)) w) ∧
  (Option.isNone p0_q = false →
    ∃ a,
      p0_q = some a ∧
        ∃ r,
          World.cell? w (Addr.add a 8) = some (Value.map r) ∧
            ∃ n b,
              Sem.run Try.prog (Instr.lookup 51 (Value.map r) (Value.int IntKind.i64 p1_id) true) w =
                  Result.ok (Value.tuple #[Value.int IntKind.i64 n, Value.bool b]) w ∧
                ((!b) = true → R (Ending.returned (Value.int IntKind.i64 4)) w) ∧
                  ((!b) = false →
                    ∃ a,
                      p0_q = some a ∧
                        ∃ r,
                          World.cell? w (Addr.add a 8) = some (Value.map r) ∧
                            ∃ w',
                              Sem.run Try.prog
                                    (Builtin.delete_ #[51, 3] 0
                                      #[Value.map r, Value.int IntKind.i64 p1_id])
                                    w =
                                  Result.ok (Value.tuple #[]) w' ∧
                                ∃ a,
                                  p0_q = some a ∧
                                    ((0 : Int) ≤ n ∧ n < (↑8 : Int)) ∧
                                      ∃ p,
                                        World.cell? w' (Addr.add (Addr.add a 0) (Int.toNat n * 1)) =
                                            some (Value.pointer p) ∧
                                          Call Try.prog 35 [Value.pointer p, Value.int IntKind.i64 p1_id] w'
                                            fun e w' =>
                                            ∃ n,
                                              e = Ending.returned (Value.int IntKind.i64 n) ∧
                                                R (Ending.returned (Value.int IntKind.i64 n)) w'))) := by kernel_rfl
/-! davit/fifo.New -/
def M23 : Mt := { N := 14, keep := [(0, [0]), (1, [0, 9]), (2, [2, 3]), (3, [2, 3])], ords := [], bk := [], cuts := [], lk := [] }
noncomputable def c23 : Code := bodyOf Try.f23
theorem b23 : Try.f23.body = some c23 := by kernel_rfl
theorem n23 : Try.f23.ntmps = M23.N := by kernel_rfl
theorem u23 {p0_most : Int} {w : World} {R : Ending → World → Prop} (h : den Try.prog M23 c23 (argE 0 [(Value.int IntKind.i64 p0_most)]) w (retK Try.prog Try.f23.results.toList R)) : Calls Try.prog 23 #[(Value.int IntKind.i64 p0_most)] w R := calls_den okProg Try.func23 b23 n23 (Nat.le_of_ble_eq_true rfl) h
theorem t23 (p0_most : Int) (w : World) (R : Ending → World → Prop) : den Try.prog M23 c23 (argE 0 [(Value.int IntKind.i64 p0_most)]) w (retK Try.prog Try.f23.results.toList R) =
((decide (p0_most < (1 : Int)) = false →
    (decide (p0_most > (1024 : Int)) = true →
        R (Ending.returned (Value.tuple #[Value.pointer none, Value.int IntKind.i64 2])) w) ∧
      (decide (p0_most > (1024 : Int)) = false →
        ∃ p n c w',
          Sem.run Try.prog
                (Instr.makeSlice 30 (Value.int IntKind.i64 p0_most) (Value.int IntKind.i64 p0_most)) w =
              Result.ok (Value.slice p n c) w' ∧
            New w' [Value.slice p n c, Value.int IntKind.i64 0, Value.int IntKind.i64 0] 66
              fun p w' =>
              R (Ending.returned (Value.tuple #[Value.pointer (some p), Value.int IntKind.i64 0])) w')) ∧
  (decide (p0_most < (1 : Int)) = true →
    R (Ending.returned (Value.tuple #[Value.pointer none, Value.int IntKind.i64 2])) w)) := by kernel_rfl
/-! (*davit/fifo.Queue).Push -/
def M24 : Mt := { N := 42, keep := [(0, [0, 1]), (1, [0, 1, 5]), (2, [4]), (3, [0, 1, 8]), (4, [4]), (5, [0, 1, 12]), (6, [4]), (7, [0]), (8, []), (9, [4])], ords := [(5, [0, 1, 2, 3, 4, 5, 6, 7, 8, 9, 10]), (7, [0, 1, 2, 3, 4, 5, 6, 7, 8, 10, 9, 11, 12])], bk := [(0, [0, 1])], cuts := [], lk := [] }
noncomputable def c24 : Code := bodyOf Try.f24
theorem b24 : Try.f24.body = some c24 := by kernel_rfl
theorem n24 : Try.f24.ntmps = M24.N := by kernel_rfl
theorem u24 {p0_q : Option Addr} {p1_n : Int} {w : World} {R : Ending → World → Prop} (h : den Try.prog M24 c24 (argE 0 [(Value.pointer p0_q), (Value.int IntKind.i64 p1_n)]) w (retK Try.prog Try.f24.results.toList R)) : Calls Try.prog 24 #[(Value.pointer p0_q), (Value.int IntKind.i64 p1_n)] w R := calls_den okProg Try.func24 b24 n24 (Nat.le_of_ble_eq_true rfl) h
theorem t24 (p0_q : Option Addr) (p1_n : Int) (w : World) (R : Ending → World → Prop) : den Try.prog M24 c24 (argE 0 [(Value.pointer p0_q), (Value.int IntKind.i64 p1_n)]) w (retK Try.prog Try.f24.results.toList R) =
((Option.isNone p0_q = true → R (Ending.returned (Value.int IntKind.i64 1)) w) ∧
  (Option.isNone p0_q = false →
    Call Try.prog 36 [Value.pointer p0_q, Value.int IntKind.i64 p1_n] w fun e w' =>
      ∃ b,
        e = Ending.returned (Value.bool b) ∧
          (b = true → R (Ending.returned (Value.int IntKind.i64 6)) w') ∧
            (b = false →
              ∀ (w'_1 : World),
                World.heap w'_1 = World.heap w' →
                  World.os w'_1 = World.os w' →
                    World.tape w'_1 = World.tape w' →
                      World.output w'_1 = World.output w' →
                        ∃ a,
                          p0_q = some a ∧
                            ∃ n,
                              World.cell? w'_1 (Addr.add a 2) = some (Value.int IntKind.i64 n) ∧
                                ∃ a,
                                  p0_q = some a ∧
                                    ∃ p n_1 c,
                                      World.cell? w'_1 (Addr.add a 0) = some (Value.slice p n_1 c) ∧
                                        ((n == (↑n_1 : Int)) = true →
                                            R (Ending.returned (Value.int IntKind.i64 5)) w'_1) ∧
                                          ((n == (↑n_1 : Int)) = false →
                                            ∀ (w' : World),
                                              World.heap w' = World.heap w'_1 →
                                                World.os w' = World.os w'_1 →
                                                  World.tape w' = World.tape w'_1 →
                                                    World.output w' = World.output w'_1 →
                                                      ∃ a,
                                                        p0_q = some a ∧
                                                          ∃ p n c,
                                                            World.cell? w' (Addr.add a 0) =
                                                                some (Value.slice p n c) ∧
                                                              ∃ a_1,
                                                                p0_q = some a_1 ∧
                                                                  ∃ n_2,
                                                                    World.cell? w' (Addr.add a_1 2) =
                                                                        some (Value.int IntKind.i64 n_2) ∧
                                                                      Call Try.prog 37
                                                                        [Value.pointer p0_q, Value.int IntKind.i64 n_2]
                                                                        w' fun e w' =>
                                                                        ∃ n_3,
                                                                          e =
                                                                              Ending.returned
                                                                                (Value.int IntKind.i64 n_3) ∧
                                                                            World.cell? w' (Addr.add a 0) =
                                                                                some (Value.slice p n c) ∧
                                                                              ((0 : Int) ≤ n_3 ∧ n_3 < (↑n : Int)) ∧
                                                                                ∃ a,
                                                                                  p = some a ∧
                                                                                    Wr w'
                                                                                      (Addr.add a
                                                                                        (Int.toNat n_3 * 1))
                                                                                      [Value.int IntKind.i64 p1_n]
                                                                                      fun w' =>
                                                                                      ∃ a,
                                                                                        p0_q = some a ∧
                                                                                          ∃ n,
                                                                                            World.cell? w'
                                                                                                  (Addr.add a
                                                                                                    2) =
                                                                                                some
                                                                                                  (Value.int IntKind.i64
                                                                                                    n) ∧
                                                                                              ∃ a,
                                                                                                p0_q = some a ∧
                                                                                                  Wr w'
                                                                                                    (Addr.add a
                                                                                                      2)
                                                                                                    [Value.int
                                                                                                        IntKind.i64
                                                                                                        (IntKind.wrap
                                                                                                          IntKind.i64
                                                                                                          (n +
                                                                                                            (1 : Int)))]
                                                                                                    fun w' =>
                                                                                                    R
                                                                                                      (Ending.returned
                                                                                                        (Value.int
                                                                                                          IntKind.i64
                                                                                                          (0 : Int)))
                                                                                                      w')))) := by kernel_rfl
/-! (*davit/prio.Queue).down -/
def M25 : Mt := { N := 4, keep := [(0, [1]), (1, [2])], ords := [], bk := [], cuts := [], lk := [] }
noncomputable def c25 : Code := bodyOf Try.f25
theorem b25 : Try.f25.body = some c25 := by kernel_rfl
theorem n25 : Try.f25.ntmps = M25.N := by kernel_rfl
theorem u25 {p0_q : Option Addr} {w : World} {R : Ending → World → Prop} (h : den Try.prog M25 c25 (argE 0 [(Value.pointer p0_q)]) w (retK Try.prog Try.f25.results.toList R)) : Calls Try.prog 25 #[(Value.pointer p0_q)] w R := calls_den okProg Try.func25 b25 n25 (Nat.le_of_ble_eq_true rfl) h
theorem t25 (p0_q : Option Addr) (w : World) (R : Ending → World → Prop) : den Try.prog M25 c25 (argE 0 [(Value.pointer p0_q)]) w (retK Try.prog Try.f25.results.toList R) =
(New w [Value.pointer p0_q] 23 fun p w' =>
  R (Ending.returned (Value.func (Fn.func 38) #[] #[Value.pointer (some p)])) w') := by kernel_rfl
/-! (*davit/fifo.Queue).List -/
def M26 : Mt := { N := 39, keep := [(0, [0]), (1, [0, 13]), (2, [2]), (3, [0, 3]), (4, [0, 3, 4]), (5, [3]), (6, [2])], ords := [(4, [0, 1, 2, 3, 4, 5, 6, 7, 8, 9, 10, 11]), (5, [0, 1, 2, 3, 4, 5, 6, 7])], bk := [], cuts := [], lk := [] }
noncomputable def c26 : Code := bodyOf Try.f26
theorem b26 : Try.f26.body = some c26 := by kernel_rfl
theorem n26 : Try.f26.ntmps = M26.N := by kernel_rfl
theorem u26 {p0_q : Option Addr} {w : World} {R : Ending → World → Prop} (h : den Try.prog M26 c26 (argE 0 [(Value.pointer p0_q)]) w (retK Try.prog Try.f26.results.toList R)) : Calls Try.prog 26 #[(Value.pointer p0_q)] w R := calls_den okProg Try.func26 b26 n26 (Nat.le_of_ble_eq_true rfl) h
theorem t26 (p0_q : Option Addr) (w : World) (R : Ending → World → Prop) : den Try.prog M26 c26 (argE 0 [(Value.pointer p0_q)]) w (retK Try.prog Try.f26.results.toList R) =
((Option.isNone p0_q = false →
    ∃ a,
      p0_q = some a ∧
        ∃ n,
          World.cell? w (Addr.add a 2) = some (Value.int IntKind.i64 n) ∧
            ((n == (0 : Int)) = true → R (Ending.returned (Value.slice none 0 0)) w) ∧
              ((n == (0 : Int)) = false →
                ∃ a,
                  p0_q = some a ∧
                    ∃ n,
                      World.cell? w (Addr.add a 2) = some (Value.int IntKind.i64 n) ∧
                        ∃ p n_1 c w',
                          Sem.run Try.prog
                                (Instr.makeSlice 30 (Value.int IntKind.i64 n) (Value.int IntKind.i64 n)) w =
                              Result.ok (Value.slice p n_1 c) w' ∧
                            ∀ (w'_1 : World),
                              World.heap w'_1 = World.heap w' →
                                World.os w'_1 = World.os w' →
                                  World.tape w'_1 = World.tape w' →
                                    World.output w'_1 = World.output w' →
                                      ∃ a,
                                        p0_q = some a ∧
                                          ∃ p_1 n c_1,
                                            World.cell? w'_1 (Addr.add a 0) = some (Value.slice p_1 n c_1) ∧
                                              ∃ a,
                                                p0_q = some a ∧
                                                  ∃ n_2,
                                                    World.cell? w'_1 (Addr.add a 1) =
                                                        some (Value.int IntKind.i64 n_2) ∧
                                                      ((0 : Int) ≤ n_2 ∧ n_2 ≤ (↑n : Int)) ∧
                                                        ∃ n_3 w',
                                                          Sem.run Try.prog
                                                                (Builtin.copy_ #[30, 30] 3
                                                                  #[Value.slice p n_1 c,
                                                                    Value.slice (subA p_1 c_1 (Int.toNat n_2) 1)
                                                                      (n - Int.toNat n_2) (c_1 - Int.toNat n_2)])
                                                                w'_1 =
                                                              Result.ok (Value.int IntKind.i64 n_3) w' ∧
                                                            ∀ (w'_2 : World),
                                                              World.heap w'_2 = World.heap w' →
                                                                World.os w'_2 = World.os w' →
                                                                  World.tape w'_2 = World.tape w' →
                                                                    World.output w'_2 = World.output w' →
                                                                      ((0 : Int) ≤ n_3 ∧ n_3 ≤ (↑n_1 : Int)) ∧
                                                                        ∃ a,
                                                                          p0_q = some a ∧
                                                                            ∃ p_2 n c_2,
                                                                              World.cell? w'_2 (Addr.add a 0) =
                                                                                  some (Value.slice p_2 n c_2) ∧
                                                                                ∃ n_4 w',
                                                                                  Sem.run Try.prog
                                                                                        (Builtin.copy_
                                                                                          #[30, 30]
                                                                                          3
                                                                                          #[Value.slice
                                                                                              (subA p c (Int.toNat n_3)
                                                                                                1)
                                                                                              (n_1 - Int.toNat n_3)
                                                                                              (c - Int.toNat n_3),
                                                                                            Value.slice p_2 n c_2])
                                                                                        w'_2 =
                                                                                      Result.ok
                                                                                        (Value.int IntKind.i64 n_4) w' ∧
                                                                                    R
                                                                                      (Ending.returned
                                                                                        (Value.slice p n_1 c))
                                                                                      w')) ∧
  (Option.isNone p0_q = true → R (Ending.returned (Value.slice none 0 0)) w)) := by kernel_rfl
/-! (*davit/fifo.Queue).Front -/
def M28 : Mt := { N := 23, keep := [(0, [0]), (1, [0, 4]), (2, [2, 3]), (3, [0, 7]), (4, [2, 3]), (5, [2, 3])], ords := [(5, [0, 1, 2, 3, 4, 5, 6, 7, 8, 9, 10, 11])], bk := [(0, [0])], cuts := [], lk := [] }
noncomputable def c28 : Code := bodyOf Try.f28
theorem b28 : Try.f28.body = some c28 := by kernel_rfl
theorem n28 : Try.f28.ntmps = M28.N := by kernel_rfl
theorem u28 {p0_q : Option Addr} {w : World} {R : Ending → World → Prop} (h : den Try.prog M28 c28 (argE 0 [(Value.pointer p0_q)]) w (retK Try.prog Try.f28.results.toList R)) : Calls Try.prog 28 #[(Value.pointer p0_q)] w R := calls_den okProg Try.func28 b28 n28 (Nat.le_of_ble_eq_true rfl) h
theorem t28 (p0_q : Option Addr) (w : World) (R : Ending → World → Prop) : den Try.prog M28 c28 (argE 0 [(Value.pointer p0_q)]) w (retK Try.prog Try.f28.results.toList R) =
((Option.isNone p0_q = true →
    R (Ending.returned (Value.tuple #[Value.int IntKind.i64 0, Value.int IntKind.i64 1])) w) ∧
  (Option.isNone p0_q = false →
    ∃ a,
      p0_q = some a ∧
        ∃ n,
          World.cell? w (Addr.add a 2) = some (Value.int IntKind.i64 n) ∧
            ((n == (0 : Int)) = true →
                R (Ending.returned (Value.tuple #[Value.int IntKind.i64 0, Value.int IntKind.i64 12]))
                  w) ∧
              ((n == (0 : Int)) = false →
                ∀ (w' : World),
                  World.heap w' = World.heap w →
                    World.os w' = World.os w →
                      World.tape w' = World.tape w →
                        World.output w' = World.output w →
                          ∃ a,
                            p0_q = some a ∧
                              ∃ p n c,
                                World.cell? w' (Addr.add a 0) = some (Value.slice p n c) ∧
                                  ∃ a,
                                    p0_q = some a ∧
                                      ∃ n_1,
                                        World.cell? w' (Addr.add a 1) = some (Value.int IntKind.i64 n_1) ∧
                                          ((0 : Int) ≤ n_1 ∧ n_1 < (↑n : Int)) ∧
                                            ∃ a,
                                              p = some a ∧
                                                ∃ n,
                                                  World.cell? w' (Addr.add a (Int.toNat n_1 * 1)) =
                                                      some (Value.int IntKind.i64 n) ∧
                                                    R
                                                      (Ending.returned
                                                        (Value.tuple
                                                          #[Value.int IntKind.i64 n, Value.int IntKind.i64 0]))
                                                      w'))) := by kernel_rfl
/-! (*davit/fifo.Queue).Turn -/
def M29 : Mt := { N := 16, keep := [(0, [0]), (1, [0, 3, 4]), (2, [0, 3, 4, 11]), (3, [2]), (4, [2])], ords := [], bk := [], cuts := [], lk := [] }
noncomputable def c29 : Code := bodyOf Try.f29
theorem b29 : Try.f29.body = some c29 := by kernel_rfl
theorem n29 : Try.f29.ntmps = M29.N := by kernel_rfl
theorem u29 {p0_q : Option Addr} {w : World} {R : Ending → World → Prop} (h : den Try.prog M29 c29 (argE 0 [(Value.pointer p0_q)]) w (retK Try.prog Try.f29.results.toList R)) : Calls Try.prog 29 #[(Value.pointer p0_q)] w R := calls_den okProg Try.func29 b29 n29 (Nat.le_of_ble_eq_true rfl) h
theorem t29 (p0_q : Option Addr) (w : World) (R : Ending → World → Prop) : den Try.prog M29 c29 (argE 0 [(Value.pointer p0_q)]) w (retK Try.prog Try.f29.results.toList R) =
(Call Try.prog 40 [Value.pointer p0_q] w fun e w' =>
  ∃ n n_1,
    e = Ending.returned (Value.tuple #[Value.int IntKind.i64 n, Value.int IntKind.i64 n_1]) ∧
      ((n_1 != (0 : Int)) = true → R (Ending.returned (Value.int IntKind.i64 n_1)) w') ∧
        ((n_1 != (0 : Int)) = false →
          Call Try.prog 24 [Value.pointer p0_q, Value.int IntKind.i64 n] w' fun e w' =>
            ∃ n, e = Ending.returned (Value.int IntKind.i64 n) ∧ R (Ending.returned (Value.int IntKind.i64 n)) w')) := by kernel_rfl
/-! (*davit/davitref09.Queue).Push -/
def M30 : Mt := { N := 39, keep := [(0, [0, 1, 2]), (1, [0, 1, 2, 12]), (2, [6]), (3, [0, 1, 2, 16]), (4, [6]), (5, [0, 1, 2, 26]), (6, [6]), (7, []), (8, [6])], ords := [(5, [0, 1, 2, 3, 4, 5, 6, 7, 8, 9])], bk := [], cuts := [], lk := [] }
noncomputable def c30 : Code := bodyOf Try.f30
theorem b30 : Try.f30.body = some c30 := by kernel_rfl
theorem n30 : Try.f30.ntmps = M30.N := by kernel_rfl
theorem u30 {p0_q : Option Addr} {p1_prio : Int} {p2_id : Int} {w : World} {R : Ending → World → Prop} (h : den Try.prog M30 c30 (argE 0 [(Value.pointer p0_q), (Value.int IntKind.i64 p1_prio), (Value.int IntKind.i64 p2_id)]) w (retK Try.prog Try.f30.results.toList R)) : Calls Try.prog 30 #[(Value.pointer p0_q), (Value.int IntKind.i64 p1_prio), (Value.int IntKind.i64 p2_id)] w R := calls_den okProg Try.func30 b30 n30 (Nat.le_of_ble_eq_true rfl) h
theorem t30 (p0_q : Option Addr) (p1_prio : Int) (p2_id : Int) (w : World) (R : Ending → World → Prop) : den Try.prog M30 c30 (argE 0 [(Value.pointer p0_q), (Value.int IntKind.i64 p1_prio), (Value.int IntKind.i64 p2_id)]) w (retK Try.prog Try.f30.results.toList R) =
((decide (p1_prio < (0 : Int)) = false →
    (decide (p1_prio ≥ (8 : Int)) = true → R (Ending.returned (Value.int IntKind.i64 2)) w) ∧
      (decide (p1_prio ≥ (8 : Int)) = false →
        Call Try.prog 34 [Value.pointer p0_q, Value.int IntKind.i64 p2_id] w fun e w' =>
          ∃ n,
            e = Ending.returned (Value.int IntKind.i64 n) ∧
              (decide (n ≥ (0 : Int)) = true → R (Ending.returned (Value.int IntKind.i64 6)) w') ∧
                (decide (n ≥ (0 : Int)) = false →
                  ∀ (w'_1 : World),
                    World.heap w'_1 = World.heap w' →
                      World.os w'_1 = World.os w' →
                        World.tape w'_1 = World.tape w' →
                          World.output w'_1 = World.output w' →
                            ∃ a,
                              p0_q = some a ∧
                                ∃ p n c,
                                  World.cell? w'_1 (Addr.add a 1) = some (Value.slice p n c) ∧
                                    ∃ a,
                                      p0_q = some a ∧
                                        ∃ n_1,
                                          World.cell? w'_1 (Addr.add a 0) = some (Value.int IntKind.i64 n_1) ∧
                                            (decide ((↑n : Int) ≥ n_1) = true →
                                                R (Ending.returned (Value.int IntKind.i64 5)) w'_1) ∧
                                              (decide ((↑n : Int) ≥ n_1) = false →
                                                ∃ a,
                                                  p0_q = some a ∧
                                                    ∃ p n c,
                                                      World.cell? w'_1 (Addr.add a 1) =
                                                          some (Value.slice p n c) ∧
                                                        New w'_1
                                                          [Value.int IntKind.i64 p1_prio, Value.int IntKind.i64 p2_id]
                                                          64 fun p_1 w' =>
                                                          ∃ p_2 n_2 c_1 w'_2,
                                                            Sem.run Try.prog
                                                                  (Builtin.append_ #[45, 45] 45
                                                                    #[Value.slice p n c,
                                                                      Value.slice (some p_1) 1 1])
                                                                  w' =
                                                                Result.ok (Value.slice p_2 n_2 c_1) w'_2 ∧
                                                              ∃ a,
                                                                p0_q = some a ∧
                                                                  Wr w'_2 (Addr.add a 1)
                                                                    [Value.slice p_2 n_2 c_1] fun w' =>
                                                                    R
                                                                      (Ending.returned
                                                                        (Value.int IntKind.i64 0))
                                                                      w')))) ∧
  (decide (p1_prio < (0 : Int)) = true → R (Ending.returned (Value.int IntKind.i64 2)) w)) := by kernel_rfl
/-! (*davit/davitref09.Queue).Turn -/
def M31 : Mt := { N := 16, keep := [(0, [0]), (1, [0, 3, 4]), (2, [0, 3, 4, 11]), (3, [2]), (4, [2])], ords := [], bk := [], cuts := [], lk := [] }
noncomputable def c31 : Code := bodyOf Try.f31
theorem b31 : Try.f31.body = some c31 := by kernel_rfl
theorem n31 : Try.f31.ntmps = M31.N := by kernel_rfl
theorem u31 {p0_q : Option Addr} {w : World} {R : Ending → World → Prop} (h : den Try.prog M31 c31 (argE 0 [(Value.pointer p0_q)]) w (retK Try.prog Try.f31.results.toList R)) : Calls Try.prog 31 #[(Value.pointer p0_q)] w R := calls_den okProg Try.func31 b31 n31 (Nat.le_of_ble_eq_true rfl) h
theorem t31 (p0_q : Option Addr) (w : World) (R : Ending → World → Prop) : den Try.prog M31 c31 (argE 0 [(Value.pointer p0_q)]) w (retK Try.prog Try.f31.results.toList R) =
(Call Try.prog 17 [Value.pointer p0_q] w fun e w' =>
  ∃ n n_1,
    e = Ending.returned (Value.tuple #[Value.int IntKind.i64 n, Value.int IntKind.i64 n_1]) ∧
      ((n_1 != (0 : Int)) = true → R (Ending.returned (Value.int IntKind.i64 n_1)) w') ∧
        ((n_1 != (0 : Int)) = false →
          Call Try.prog 32 [Value.pointer p0_q, Value.int IntKind.i64 n] w' fun e w' =>
            ∃ n, e = Ending.returned (Value.int IntKind.i64 n) ∧ R (Ending.returned (Value.int IntKind.i64 n)) w')) := by kernel_rfl
/-! (*davit/davitref09.Queue).Back -/
def M32 : Mt := { N := 30, keep := [(0, [0, 1]), (1, [0, 1, 5, 6]), (2, [0, 1, 5, 14]), (3, [4]), (4, [0, 1, 5]), (5, []), (6, [4])], ords := [], bk := [], cuts := [], lk := [] }
noncomputable def c32 : Code := bodyOf Try.f32
theorem b32 : Try.f32.body = some c32 := by kernel_rfl
theorem n32 : Try.f32.ntmps = M32.N := by kernel_rfl
theorem u32 {p0_q : Option Addr} {p1_id : Int} {w : World} {R : Ending → World → Prop} (h : den Try.prog M32 c32 (argE 0 [(Value.pointer p0_q), (Value.int IntKind.i64 p1_id)]) w (retK Try.prog Try.f32.results.toList R)) : Calls Try.prog 32 #[(Value.pointer p0_q), (Value.int IntKind.i64 p1_id)] w R := calls_den okProg Try.func32 b32 n32 (Nat.le_of_ble_eq_true rfl) h
theorem t32 (p0_q : Option Addr) (p1_id : Int) (w : World) (R : Ending → World → Prop) : den Try.prog M32 c32 (argE 0 [(Value.pointer p0_q), (Value.int IntKind.i64 p1_id)]) w (retK Try.prog Try.f32.results.toList R) =
(Call Try.prog 18 [Value.pointer p0_q, Value.int IntKind.i64 p1_id] w fun e w' =>
  ∃ n b,
    e = Ending.returned (Value.tuple #[Value.int IntKind.i64 n, Value.bool b]) ∧
      ((!b) = true → R (Ending.returned (Value.int IntKind.i64 4)) w') ∧
        ((!b) = false →
          Call Try.prog 33 [Value.pointer p0_q, Value.int IntKind.i64 p1_id] w' fun e w' =>
            ∃ n_1,
              e = Ending.returned (Value.int IntKind.i64 n_1) ∧
                ∃ a,
                  p0_q = some a ∧
                    ∃ p n_2 c,
                      World.cell? w' (Addr.add a 1) = some (Value.slice p n_2 c) ∧
                        New w' [Value.int IntKind.i64 n, Value.int IntKind.i64 p1_id] 64 fun p_1 w' =>
                          ∃ p_2 n c_1 w'_1,
                            Sem.run Try.prog
                                  (Builtin.append_ #[45, 45] 45
                                    #[Value.slice p n_2 c, Value.slice (some p_1) 1 1])
                                  w' =
                                Result.ok (Value.slice p_2 n c_1) w'_1 ∧
                              ∃ a,
                                p0_q = some a ∧
                                  Wr w'_1 (Addr.add a 1) [Value.slice p_2 n c_1] fun w' =>
                                    R (Ending.returned (Value.int IntKind.i64 0)) w')) := by kernel_rfl
/-! (*davit/davitref09.Queue).Drop -/
def M33 : Mt := { N := 32, keep := [(0, [0, 1]), (1, [0, 5]), (2, [0, 5, 11]), (3, [4]), (4, [0, 5, 6]), (5, [0, 5, 6]), (6, []), (7, [4])], ords := [], bk := [], cuts := [], lk := [] }
noncomputable def c33 : Code := bodyOf Try.f33
theorem b33 : Try.f33.body = some c33 := by kernel_rfl
theorem n33 : Try.f33.ntmps = M33.N := by kernel_rfl
theorem u33 {p0_q : Option Addr} {p1_id : Int} {w : World} {R : Ending → World → Prop} (h : den Try.prog M33 c33 (argE 0 [(Value.pointer p0_q), (Value.int IntKind.i64 p1_id)]) w (retK Try.prog Try.f33.results.toList R)) : Calls Try.prog 33 #[(Value.pointer p0_q), (Value.int IntKind.i64 p1_id)] w R := calls_den okProg Try.func33 b33 n33 (Nat.le_of_ble_eq_true rfl) h
theorem t33 (p0_q : Option Addr) (p1_id : Int) (w : World) (R : Ending → World → Prop) : den Try.prog M33 c33 (argE 0 [(Value.pointer p0_q), (Value.int IntKind.i64 p1_id)]) w (retK Try.prog Try.f33.results.toList R) =
(Call Try.prog 34 [Value.pointer p0_q, Value.int IntKind.i64 p1_id] w fun e w' =>
  ∃ n,
    e = Ending.returned (Value.int IntKind.i64 n) ∧
      (decide (n < (0 : Int)) = true → R (Ending.returned (Value.int IntKind.i64 4)) w') ∧
        (decide (n < (0 : Int)) = false →
          ∃ a,
            p0_q = some a ∧
              ∃ p n_1 c,
                World.cell? w' (Addr.add a 1) = some (Value.slice p n_1 c) ∧
                  ((0 : Int) ≤ n ∧ n ≤ (↑c : Int)) ∧
                    ∃ p_1 n_2 c_1 w'_1,
                      Sem.run Try.prog
                            (Builtin.append_ #[45, 45] 45
                              #[Value.slice none 0 0,
                                Value.slice (subA p c 0 2) (Int.toNat n - 0) (c - 0)])
                            w' =
                          Result.ok (Value.slice p_1 n_2 c_1) w'_1 ∧
                        ∃ a,
                          p0_q = some a ∧
                            ∃ p n_3 c,
                              World.cell? w'_1 (Addr.add a 1) = some (Value.slice p n_3 c) ∧
                                ((0 : Int) ≤ IntKind.wrap IntKind.i64 (n + (1 : Int)) ∧
                                    IntKind.wrap IntKind.i64 (n + (1 : Int)) ≤ (↑n_3 : Int)) ∧
                                  ∃ p_2 n_4 c_2 w',
                                    Sem.run Try.prog
                                          (Builtin.append_ #[45, 45] 45
                                            #[Value.slice p_1 n_2 c_1,
                                              Value.slice
                                                (subA p c (Int.toNat (IntKind.wrap IntKind.i64 (n + (1 : Int))))
                                                  2)
                                                (n_3 - Int.toNat (IntKind.wrap IntKind.i64 (n + (1 : Int))))
                                                (c - Int.toNat (IntKind.wrap IntKind.i64 (n + (1 : Int))))])
                                          w'_1 =
                                        Result.ok (Value.slice p_2 n_4 c_2) w' ∧
                                      ∃ a,
                                        p0_q = some a ∧
                                          Wr w' (Addr.add a 1) [Value.slice p_2 n_4 c_2] fun w' =>
                                            R (Ending.returned (Value.int IntKind.i64 0)) w')) := by kernel_rfl
/-! (*davit/davitref09.Queue).find -/
def M34 : Mt := { N := 26, keep := [(0, [0, 1]), (1, [0, 1, 5]), (2, [0, 1, 5, 12]), (3, [0, 1, 5]), (4, [0, 1, 5, 24]), (5, [4]), (6, [4])], ords := [], bk := [(0, []), (1, [0, 1, 5])], cuts := [], lk := [(2, [0, 1, 5])] }
noncomputable def c34 : Code := bodyOf Try.f34
noncomputable def c34_0 : Code := c34.sr.sr
noncomputable def c34_1 : Code := c34.sr.sl.sr.sl.sl
def e34_1 (p0_q : Option Addr) (p1_id : Int) (p5_i : Int) : Env := [(0, SV.v (Value.pointer p0_q)), (1, SV.v (Value.int IntKind.i64 p1_id)), (5, SV.v (Value.int IntKind.i64 p5_i))]
def k34_1 (R : Ending → World → Prop) : Cont := blockK 0 [] (seqK (fun E w => cutB (findL M34.cuts (headReg c34_0)) Try.prog M34 c34_0 E w (retK Try.prog Try.f34.results.toList R) fun E => den Try.prog M34 c34_0 E w (retK Try.prog Try.f34.results.toList R)) (retK Try.prog Try.f34.results.toList R))
theorem b34 : Try.f34.body = some c34 := by kernel_rfl
theorem n34 : Try.f34.ntmps = M34.N := by kernel_rfl
theorem u34 {p0_q : Option Addr} {p1_id : Int} {w : World} {R : Ending → World → Prop} (h : den Try.prog M34 c34 (argE 0 [(Value.pointer p0_q), (Value.int IntKind.i64 p1_id)]) w (retK Try.prog Try.f34.results.toList R)) : Calls Try.prog 34 #[(Value.pointer p0_q), (Value.int IntKind.i64 p1_id)] w R := calls_den okProg Try.func34 b34 n34 (Nat.le_of_ble_eq_true rfl) h
theorem t34 (p0_q : Option Addr) (p1_id : Int) (w : World) (R : Ending → World → Prop) : den Try.prog M34 c34 (argE 0 [(Value.pointer p0_q), (Value.int IntKind.i64 p1_id)]) w (retK Try.prog Try.f34.results.toList R) =
(Cut (WP Try.prog 26 (Code.loop c34_1) (e34_1 p0_q p1_id (0 : Int)) w (k34_1 R))) := by kernel_rfl
theorem t34_1 (p0_q : Option Addr) (p1_id : Int) (p5_i : Int) (w : World) (B34_1 : Env → World → Prop) (R : Ending → World → Prop) : den Try.prog M34 c34_1 (e34_1 p0_q p1_id p5_i) w (loopK B34_1 (k34_1 R)) =
(∃ a,
  p0_q = some a ∧
    ∃ p n c,
      World.cell? w (Addr.add a 1) = some (Value.slice p n c) ∧
        (decide (p5_i < (↑n : Int)) = true →
            ∃ a,
              p0_q = some a ∧
                ∃ p n c,
                  World.cell? w (Addr.add a 1) = some (Value.slice p n c) ∧
                    ((0 : Int) ≤ p5_i ∧ p5_i < (↑n : Int)) ∧
                      ∃ a,
                        p = some a ∧
                          ∃ n,
                            World.cell? w (Addr.add (Addr.add a (Int.toNat p5_i * 2)) 1) =
                                some (Value.int IntKind.i64 n) ∧
                              ((n == p1_id) = true → R (Ending.returned (Value.int IntKind.i64 p5_i)) w) ∧
                                ((n == p1_id) = false →
                                  B34_1
                                    [(0, SV.v (Value.pointer p0_q)),
                                      (1, SV.v (Value.int IntKind.i64 p1_id)),
                                      (5,
                                        SV.v (Value.int IntKind.i64 (IntKind.wrap IntKind.i64 (p5_i + (1 : Int)))))]
                                    w)) ∧
          (decide (p5_i < (↑n : Int)) = false → R (Ending.returned (Value.int IntKind.i64 (-1 : Int))) w)) := by kernel_rfl
/-! (*davit/fifo.Queue).Drop -/
def M35 : Mt := { N := 45, keep := [(0, [0, 1]), (1, [0, 1, 9]), (2, [4]), (3, [0, 1, 5]), (4, [0, 5, 6]), (5, [0, 5, 6, 16]), (6, [4]), (7, [0, 5, 7]), (8, [0, 5, 7, 22]), (9, [0, 5, 7]), (10, [0, 5, 7]), (11, []), (12, [4])], ords := [(10, [0, 1, 2, 3, 4, 5, 7, 8, 9, 10, 11, 6, 12, 13])], bk := [(0, [0]), (1, [0, 5, 7])], cuts := [], lk := [(8, [0, 5, 7])] }
noncomputable def c35 : Code := bodyOf Try.f35
noncomputable def c35_0 : Code := c35.sr.sr.sr.sr.sr.sr
noncomputable def c35_1 : Code := c35.sr.sr.sr.sr.sr.sl.sr.sl.sl
def e35_1 (p0_q : Option Addr) (p5_l_a : Option Addr) (p5_l_n : Nat) (p5_l_c : Nat) (p7_i : Int) : Env := [(0, SV.v (Value.pointer p0_q)), (5, SV.v (Value.slice p5_l_a p5_l_n p5_l_c)), (7, SV.v (Value.int IntKind.i64 p7_i))]
def k35_1 (R : Ending → World → Prop) : Cont := blockK 0 [0] (seqK (fun E w => cutB (findL M35.cuts (headReg c35_0)) Try.prog M35 c35_0 E w (retK Try.prog Try.f35.results.toList R) fun E => den Try.prog M35 c35_0 E w (retK Try.prog Try.f35.results.toList R)) (retK Try.prog Try.f35.results.toList R))
theorem b35 : Try.f35.body = some c35 := by kernel_rfl
theorem n35 : Try.f35.ntmps = M35.N := by kernel_rfl
theorem u35 {p0_q : Option Addr} {p1_n : Int} {w : World} {R : Ending → World → Prop} (h : den Try.prog M35 c35 (argE 0 [(Value.pointer p0_q), (Value.int IntKind.i64 p1_n)]) w (retK Try.prog Try.f35.results.toList R)) : Calls Try.prog 35 #[(Value.pointer p0_q), (Value.int IntKind.i64 p1_n)] w R := calls_den okProg Try.func35 b35 n35 (Nat.le_of_ble_eq_true rfl) h
theorem t35 (p0_q : Option Addr) (p1_n : Int) (w : World) (R : Ending → World → Prop) : den Try.prog M35 c35 (argE 0 [(Value.pointer p0_q), (Value.int IntKind.i64 p1_n)]) w (retK Try.prog Try.f35.results.toList R) =
((Option.isNone p0_q = true → R (Ending.returned (Value.int IntKind.i64 1)) w) ∧
  (Option.isNone p0_q = false →
    Call Try.prog 26 [Value.pointer p0_q] w fun e w' =>
      ∃ p n c,
        e = Ending.returned (Value.slice p n c) ∧
          Call Try.prog 41 [Value.slice p n c, Value.int IntKind.i64 p1_n] w' fun e w' =>
            ∃ n_1,
              e = Ending.returned (Value.int IntKind.i64 n_1) ∧
                (decide (n_1 < (0 : Int)) = true → R (Ending.returned (Value.int IntKind.i64 4)) w') ∧
                  (decide (n_1 < (0 : Int)) = false →
                    Cut (WP Try.prog 45 (Code.loop c35_1) (e35_1 p0_q p n c n_1) w' (k35_1 R))))) := by kernel_rfl
theorem t35_1 (p0_q : Option Addr) (p5_l_a : Option Addr) (p5_l_n : Nat) (p5_l_c : Nat) (p7_i : Int) (w : World) (B35_1 : Env → World → Prop) (R : Ending → World → Prop) : den Try.prog M35 c35_1 (e35_1 p0_q p5_l_a p5_l_n p5_l_c p7_i) w (loopK B35_1 (k35_1 R)) =
((decide (IntKind.wrap IntKind.i64 (p7_i + (1 : Int)) < (↑p5_l_n : Int)) = true →
    ∀ (w' : World),
      World.heap w' = World.heap w →
        World.os w' = World.os w →
          World.tape w' = World.tape w →
            World.output w' = World.output w →
              ∃ a,
                p0_q = some a ∧
                  ∃ p n c,
                    World.cell? w' (Addr.add a 0) = some (Value.slice p n c) ∧
                      ((0 : Int) ≤ IntKind.wrap IntKind.i64 (p7_i + (1 : Int)) ∧
                          IntKind.wrap IntKind.i64 (p7_i + (1 : Int)) < (↑p5_l_n : Int)) ∧
                        ∃ a_1,
                          p5_l_a = some a_1 ∧
                            ∃ n_1,
                              World.cell? w'
                                    (Addr.add a_1
                                      (Int.toNat (IntKind.wrap IntKind.i64 (p7_i + (1 : Int))) * 1)) =
                                  some (Value.int IntKind.i64 n_1) ∧
                                Call Try.prog 37 [Value.pointer p0_q, Value.int IntKind.i64 p7_i] w'
                                  fun e w' =>
                                  ∃ n_2,
                                    e = Ending.returned (Value.int IntKind.i64 n_2) ∧
                                      World.cell? w'
                                            (Addr.add a_1
                                              (Int.toNat (IntKind.wrap IntKind.i64 (p7_i + (1 : Int))) * 1)) =
                                          some (Value.int IntKind.i64 n_1) ∧
                                        World.cell? w' (Addr.add a 0) = some (Value.slice p n c) ∧
                                          ((0 : Int) ≤ n_2 ∧ n_2 < (↑n : Int)) ∧
                                            ∃ a,
                                              p = some a ∧
                                                Wr w' (Addr.add a (Int.toNat n_2 * 1))
                                                  [Value.int IntKind.i64 n_1] fun w' =>
                                                  B35_1
                                                    [(0, SV.v (Value.pointer p0_q)),
                                                      (5, SV.v (Value.slice p5_l_a p5_l_n p5_l_c)),
                                                      (7,
                                                        SV.v
                                                          (Value.int IntKind.i64
                                                            (IntKind.wrap IntKind.i64 (p7_i + (1 : Int)))))]
                                                    w') ∧
  (decide (IntKind.wrap IntKind.i64 (p7_i + (1 : Int)) < (↑p5_l_n : Int)) = false →
    ∃ a,
      p0_q = some a ∧
        ∃ n,
          World.cell? w (Addr.add a 2) = some (Value.int IntKind.i64 n) ∧
            ∃ a,
              p0_q = some a ∧
                Wr w (Addr.add a 2) [Value.int IntKind.i64 (IntKind.wrap IntKind.i64 (n - (1 : Int)))]
                  fun w' => R (Ending.returned (Value.int IntKind.i64 0)) w')) := by kernel_rfl
/-! (*davit/fifo.Queue).Has -/
def M36 : Mt := { N := 9, keep := [(0, [0, 1]), (1, [4])], ords := [], bk := [], cuts := [], lk := [] }
noncomputable def c36 : Code := bodyOf Try.f36
theorem b36 : Try.f36.body = some c36 := by kernel_rfl
theorem n36 : Try.f36.ntmps = M36.N := by kernel_rfl
theorem u36 {p0_q : Option Addr} {p1_n : Int} {w : World} {R : Ending → World → Prop} (h : den Try.prog M36 c36 (argE 0 [(Value.pointer p0_q), (Value.int IntKind.i64 p1_n)]) w (retK Try.prog Try.f36.results.toList R)) : Calls Try.prog 36 #[(Value.pointer p0_q), (Value.int IntKind.i64 p1_n)] w R := calls_den okProg Try.func36 b36 n36 (Nat.le_of_ble_eq_true rfl) h
theorem t36 (p0_q : Option Addr) (p1_n : Int) (w : World) (R : Ending → World → Prop) : den Try.prog M36 c36 (argE 0 [(Value.pointer p0_q), (Value.int IntKind.i64 p1_n)]) w (retK Try.prog Try.f36.results.toList R) =
(Call Try.prog 26 [Value.pointer p0_q] w fun e w' =>
  ∃ p n c,
    e = Ending.returned (Value.slice p n c) ∧
      Call Try.prog 42 [Value.slice p n c, Value.int IntKind.i64 p1_n] w' fun e w' =>
        ∃ b, e = Ending.returned (Value.bool b) ∧ R (Ending.returned (Value.bool b)) w') := by kernel_rfl
/-! (*davit/fifo.Queue).at -/
def M37 : Mt := { N := 17, keep := [(0, [0, 1]), (1, [4])], ords := [(1, [0, 1, 2, 3, 4, 5, 6, 7, 8, 9, 10, 11, 12])], bk := [], cuts := [], lk := [] }
noncomputable def c37 : Code := bodyOf Try.f37
theorem b37 : Try.f37.body = some c37 := by kernel_rfl
theorem n37 : Try.f37.ntmps = M37.N := by kernel_rfl
theorem u37 {p0_q : Option Addr} {p1_n : Int} {w : World} {R : Ending → World → Prop} (h : den Try.prog M37 c37 (argE 0 [(Value.pointer p0_q), (Value.int IntKind.i64 p1_n)]) w (retK Try.prog Try.f37.results.toList R)) : Calls Try.prog 37 #[(Value.pointer p0_q), (Value.int IntKind.i64 p1_n)] w R := calls_den okProg Try.func37 b37 n37 (Nat.le_of_ble_eq_true rfl) h
theorem t37 (p0_q : Option Addr) (p1_n : Int) (w : World) (R : Ending → World → Prop) : den Try.prog M37 c37 (argE 0 [(Value.pointer p0_q), (Value.int IntKind.i64 p1_n)]) w (retK Try.prog Try.f37.results.toList R) =
(∀ (w' : World),
  World.heap w' = World.heap w →
    World.os w' = World.os w →
      World.tape w' = World.tape w →
        World.output w' = World.output w →
          ∃ a,
            p0_q = some a ∧
              ∃ n,
                World.cell? w' (Addr.add a 1) = some (Value.int IntKind.i64 n) ∧
                  ∃ a,
                    p0_q = some a ∧
                      ∃ p n_1 c,
                        World.cell? w' (Addr.add a 0) = some (Value.slice p n_1 c) ∧
                          (↑n_1 : Int) ≠ (0 : Int) ∧
                            R
                              (Ending.returned
                                (Value.int IntKind.i64 (Int.tmod (IntKind.wrap IntKind.i64 (n + p1_n)) (↑n_1 : Int))))
                              w') := by kernel_rfl
/-! (*davit/fifo.Queue).Len -/
def M39 : Mt := { N := 9, keep := [(0, [0]), (1, [0, 4]), (2, [2]), (3, [2])], ords := [], bk := [], cuts := [], lk := [] }
noncomputable def c39 : Code := bodyOf Try.f39
theorem b39 : Try.f39.body = some c39 := by kernel_rfl
theorem n39 : Try.f39.ntmps = M39.N := by kernel_rfl
theorem u39 {p0_q : Option Addr} {w : World} {R : Ending → World → Prop} (h : den Try.prog M39 c39 (argE 0 [(Value.pointer p0_q)]) w (retK Try.prog Try.f39.results.toList R)) : Calls Try.prog 39 #[(Value.pointer p0_q)] w R := calls_den okProg Try.func39 b39 n39 (Nat.le_of_ble_eq_true rfl) h
theorem t39 (p0_q : Option Addr) (w : World) (R : Ending → World → Prop) : den Try.prog M39 c39 (argE 0 [(Value.pointer p0_q)]) w (retK Try.prog Try.f39.results.toList R) =
((Option.isNone p0_q = true → R (Ending.returned (Value.int IntKind.i64 0)) w) ∧
  (Option.isNone p0_q = false →
    ∃ a,
      p0_q = some a ∧
        ∃ n,
          World.cell? w (Addr.add a 2) = some (Value.int IntKind.i64 n) ∧
            R (Ending.returned (Value.int IntKind.i64 n)) w)) := by kernel_rfl
/-! (*davit/fifo.Queue).Pop -/
def M40 : Mt := { N := 27, keep := [(0, [0]), (1, [0, 4, 5]), (2, [0, 4, 5, 12]), (3, [0, 4, 5]), (4, [4, 5]), (5, [2, 3])], ords := [], bk := [], cuts := [], lk := [] }
noncomputable def c40 : Code := bodyOf Try.f40
theorem b40 : Try.f40.body = some c40 := by kernel_rfl
theorem n40 : Try.f40.ntmps = M40.N := by kernel_rfl
theorem u40 {p0_q : Option Addr} {w : World} {R : Ending → World → Prop} (h : den Try.prog M40 c40 (argE 0 [(Value.pointer p0_q)]) w (retK Try.prog Try.f40.results.toList R)) : Calls Try.prog 40 #[(Value.pointer p0_q)] w R := calls_den okProg Try.func40 b40 n40 (Nat.le_of_ble_eq_true rfl) h
theorem t40 (p0_q : Option Addr) (w : World) (R : Ending → World → Prop) : den Try.prog M40 c40 (argE 0 [(Value.pointer p0_q)]) w (retK Try.prog Try.f40.results.toList R) =
(Call Try.prog 28 [Value.pointer p0_q] w fun e w' =>
  ∃ n n_1,
    e = Ending.returned (Value.tuple #[Value.int IntKind.i64 n, Value.int IntKind.i64 n_1]) ∧
      ((n_1 == (0 : Int)) = true →
          Call Try.prog 37 [Value.pointer p0_q, Value.int IntKind.i64 1] w' fun e w' =>
            ∃ n_2,
              e = Ending.returned (Value.int IntKind.i64 n_2) ∧
                ∃ a,
                  p0_q = some a ∧
                    Wr w' (Addr.add a 1) [Value.int IntKind.i64 n_2] fun w' =>
                      ∃ a,
                        p0_q = some a ∧
                          ∃ n_3,
                            World.cell? w' (Addr.add a 2) = some (Value.int IntKind.i64 n_3) ∧
                              ∃ a,
                                p0_q = some a ∧
                                  Wr w' (Addr.add a 2)
                                    [Value.int IntKind.i64 (IntKind.wrap IntKind.i64 (n_3 - (1 : Int)))] fun w' =>
                                    R
                                      (Ending.returned
                                        (Value.tuple #[Value.int IntKind.i64 n, Value.int IntKind.i64 n_1]))
                                      w') ∧
        ((n_1 == (0 : Int)) = false →
          R (Ending.returned (Value.tuple #[Value.int IntKind.i64 n, Value.int IntKind.i64 n_1])) w')) := by kernel_rfl
/-! slices.Index[[]int,int] -/
def M41 : Mt := { N := 19, keep := [(0, [0, 1]), (1, [0, 1, 7, 8]), (2, [0, 1, 7, 8, 9]), (3, [0, 1, 5, 7, 8]), (4, [0, 1, 5, 7, 8, 16]), (5, [4]), (6, [0, 1, 7, 8]), (7, [4])], ords := [], bk := [(0, []), (1, [0, 1, 7, 8])], cuts := [], lk := [(2, [0, 1, 7, 8])] }
noncomputable def c41 : Code := bodyOf Try.f41
noncomputable def c41_0 : Code := c41.sr.sr
noncomputable def c41_1 : Code := c41.sr.sl.sr.sl.sl
def e41_1 (p0_s_a : Option Addr) (p0_s_n : Nat) (p0_s_c : Nat) (p1_v : Int) (p7_t : Int) (p8_t : Int) : Env := [(0, SV.v (Value.slice p0_s_a p0_s_n p0_s_c)), (1, SV.v (Value.int IntKind.i64 p1_v)), (7, SV.v (Value.int IntKind.i64 p7_t)), (8, SV.v (Value.int IntKind.i64 p8_t))]
def k41_1 (R : Ending → World → Prop) : Cont := blockK 0 [] (seqK (fun E w => cutB (findL M41.cuts (headReg c41_0)) Try.prog M41 c41_0 E w (retK Try.prog Try.f41.results.toList R) fun E => den Try.prog M41 c41_0 E w (retK Try.prog Try.f41.results.toList R)) (retK Try.prog Try.f41.results.toList R))
theorem b41 : Try.f41.body = some c41 := by kernel_rfl
theorem n41 : Try.f41.ntmps = M41.N := by kernel_rfl
theorem u41 {p0_s_a : Option Addr} {p0_s_n : Nat} {p0_s_c : Nat} {p1_v : Int} {w : World} {R : Ending → World → Prop} (h : den Try.prog M41 c41 (argE 0 [(Value.slice p0_s_a p0_s_n p0_s_c), (Value.int IntKind.i64 p1_v)]) w (retK Try.prog Try.f41.results.toList R)) : Calls Try.prog 41 #[(Value.slice p0_s_a p0_s_n p0_s_c), (Value.int IntKind.i64 p1_v)] w R := calls_den okProg Try.func41 b41 n41 (Nat.le_of_ble_eq_true rfl) h
theorem t41 (p0_s_a : Option Addr) (p0_s_n : Nat) (p0_s_c : Nat) (p1_v : Int) (w : World) (R : Ending → World → Prop) : den Try.prog M41 c41 (argE 0 [(Value.slice p0_s_a p0_s_n p0_s_c), (Value.int IntKind.i64 p1_v)]) w (retK Try.prog Try.f41.results.toList R) =
(Cut
  (WP Try.prog 19 (Code.loop c41_1) (e41_1 p0_s_a p0_s_n p0_s_c p1_v (↑p0_s_n : Int) (0 : Int)) w
    (k41_1 R))) := by kernel_rfl
theorem t41_1 (p0_s_a : Option Addr) (p0_s_n : Nat) (p0_s_c : Nat) (p1_v : Int) (p7_t : Int) (p8_t : Int) (w : World) (B41_1 : Env → World → Prop) (R : Ending → World → Prop) : den Try.prog M41 c41_1 (e41_1 p0_s_a p0_s_n p0_s_c p1_v p7_t p8_t) w (loopK B41_1 (k41_1 R)) =
((decide (p8_t < p7_t) = true →
    ((0 : Int) ≤ p8_t ∧ p8_t < (↑p0_s_n : Int)) ∧
      ∃ a,
        p0_s_a = some a ∧
          ∃ n,
            World.cell? w (Addr.add a (Int.toNat p8_t * 1)) = some (Value.int IntKind.i64 n) ∧
              ((p1_v == n) = true → R (Ending.returned (Value.int IntKind.i64 p8_t)) w) ∧
                ((p1_v == n) = false →
                  B41_1
                    [(0, SV.v (Value.slice p0_s_a p0_s_n p0_s_c)),
                      (1, SV.v (Value.int IntKind.i64 p1_v)), (7, SV.v (Value.int IntKind.i64 p7_t)),
                      (8, SV.v (Value.int IntKind.i64 (IntKind.wrap IntKind.i64 (p8_t + (1 : Int)))))]
                    w)) ∧
  (decide (p8_t < p7_t) = false → R (Ending.returned (Value.int IntKind.i64 (-1 : Int))) w)) := by kernel_rfl
/-! slices.Contains[[]int,int] -/
def M42 : Mt := { N := 9, keep := [(0, [0, 1]), (1, [4])], ords := [], bk := [], cuts := [], lk := [] }
noncomputable def c42 : Code := bodyOf Try.f42
theorem b42 : Try.f42.body = some c42 := by kernel_rfl
theorem n42 : Try.f42.ntmps = M42.N := by kernel_rfl
theorem u42 {p0_s_a : Option Addr} {p0_s_n : Nat} {p0_s_c : Nat} {p1_v : Int} {w : World} {R : Ending → World → Prop} (h : den Try.prog M42 c42 (argE 0 [(Value.slice p0_s_a p0_s_n p0_s_c), (Value.int IntKind.i64 p1_v)]) w (retK Try.prog Try.f42.results.toList R)) : Calls Try.prog 42 #[(Value.slice p0_s_a p0_s_n p0_s_c), (Value.int IntKind.i64 p1_v)] w R := calls_den okProg Try.func42 b42 n42 (Nat.le_of_ble_eq_true rfl) h
theorem t42 (p0_s_a : Option Addr) (p0_s_n : Nat) (p0_s_c : Nat) (p1_v : Int) (w : World) (R : Ending → World → Prop) : den Try.prog M42 c42 (argE 0 [(Value.slice p0_s_a p0_s_n p0_s_c), (Value.int IntKind.i64 p1_v)]) w (retK Try.prog Try.f42.results.toList R) =
(Call Try.prog 41 [Value.slice p0_s_a p0_s_n p0_s_c, Value.int IntKind.i64 p1_v] w fun e w' =>
  ∃ n, e = Ending.returned (Value.int IntKind.i64 n) ∧ R (Ending.returned (Value.bool (decide (n ≥ (0 : Int))))) w') := by kernel_rfl
end Go.Dav
