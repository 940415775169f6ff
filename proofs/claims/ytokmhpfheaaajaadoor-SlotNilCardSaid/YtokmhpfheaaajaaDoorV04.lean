/- What functions of the program come to. -/
import Derived.Test.YtokmhpfheaaajaaDoorPrg04
namespace Go.Dav
open Go.Proofs
/-! davit/davitlaw04.SlotOnce -/
def M3 : Mt := { N := 80, keep := [(0, [0, 1]), (1, [0, 1, 5, 6]), (2, [0, 1, 5, 18]), (3, [4]), (4, [0, 1, 5, 7]), (5, [0, 1, 5, 7, 35]), (6, [0, 1, 5, 7]), (7, [0, 1, 5, 7, 42]), (8, [0, 1, 5, 7]), (9, [0, 1, 5, 7, 8]), (10, [0, 1, 5, 7, 8, 9, 10]), (11, [0, 1, 5, 7, 8, 9, 10, 62]), (12, [4]), (13, [0, 1, 5, 7, 8, 9, 10, 11]), (14, [0, 1, 5, 7, 8, 9, 10, 11, 66]), (15, [0, 1, 5, 7, 8, 9, 10, 11]), (16, [0, 1, 5, 7, 8, 9, 10, 11, 78]), (17, [4]), (18, [4])], ords := [], bk := [(0, []), (1, [0, 1, 5, 7]), (2, [0, 1, 5, 7]), (3, [0, 1, 5, 7, 8, 9, 10, 11])], cuts := [(18, [])], lk := [(5, [0, 1, 5, 7]), (14, [0, 1, 5, 7, 8, 9, 10, 11])] }
noncomputable def c3 : Code := bodyOf Tryd.f3
noncomputable def c3_0 : Code := c3.sr.sr.sr.sr
noncomputable def c3_1 : Code := c3.sr.sr.sr.sl.sr.sl.sl
noncomputable def c3_2 : Code := c3.sr.sr.sr.sl.sr.sl.sl.sr.sr
noncomputable def c3_3 : Code := c3.sr.sr.sr.sl.sr.sl.sl.sr.sl.sl.sr.sr.sr.sr.sr.sl.sl
def e3_0  : Env := []
def e3_1 (p0_most : Int) (p1_acts_a : Option Addr) (p1_acts_n : Nat) (p1_acts_c : Nat) (p5_t : Option Addr) (p7_i : Int) : Env := [(0, SV.v (Value.int IntKind.i64 p0_most)), (1, SV.v (Value.slice p1_acts_a p1_acts_n p1_acts_c)), (5, SV.v (Value.pointer p5_t)), (7, SV.v (Value.int IntKind.i64 p7_i))]
def e3_3 (p0_most : Int) (p1_acts_a : Option Addr) (p1_acts_n : Nat) (p1_acts_c : Nat) (p5_t : Option Addr) (p7_i : Int) (p8_was_a : Option Addr) (p8_was_n : Nat) (p8_was_c : Nat) (p9_n : Int) (p10_f : Int) (p11_k : Int) : Env := [(0, SV.v (Value.int IntKind.i64 p0_most)), (1, SV.v (Value.slice p1_acts_a p1_acts_n p1_acts_c)), (5, SV.v (Value.pointer p5_t)), (7, SV.v (Value.int IntKind.i64 p7_i)), (8, SV.v (Value.slice p8_was_a p8_was_n p8_was_c)), (9, SV.v (Value.int IntKind.i64 p9_n)), (10, SV.v (Value.int IntKind.i64 p10_f)), (11, SV.v (Value.int IntKind.i64 p11_k))]
def k3_0 (R : Ending → World → Prop) : Cont := retK Tryd.prog Tryd.f3.results.toList R
def k3_1 (R : Ending → World → Prop) : Cont := blockK 0 [] (seqK (fun E w => cutB (findL M3.cuts (headReg c3_0)) Tryd.prog M3 c3_0 E w (retK Tryd.prog Tryd.f3.results.toList R) fun E => den Tryd.prog M3 c3_0 E w (retK Tryd.prog Tryd.f3.results.toList R)) (retK Tryd.prog Tryd.f3.results.toList R))
def k3_3 (B3_1 : Env → World → Prop) (R : Ending → World → Prop) : Cont := blockK 2 [0, 1, 5, 7] (blockK 1 [0, 1, 5, 7] (seqK (fun E w => cutB (findL M3.cuts (headReg c3_2)) Tryd.prog M3 c3_2 E w (loopK B3_1 (blockK 0 [] (seqK (fun E w => cutB (findL M3.cuts (headReg c3_0)) Tryd.prog M3 c3_0 E w (retK Tryd.prog Tryd.f3.results.toList R) fun E => den Tryd.prog M3 c3_0 E w (retK Tryd.prog Tryd.f3.results.toList R)) (retK Tryd.prog Tryd.f3.results.toList R)))) fun E => den Tryd.prog M3 c3_2 E w (loopK B3_1 (blockK 0 [] (seqK (fun E w => cutB (findL M3.cuts (headReg c3_0)) Tryd.prog M3 c3_0 E w (retK Tryd.prog Tryd.f3.results.toList R) fun E => den Tryd.prog M3 c3_0 E w (retK Tryd.prog Tryd.f3.results.toList R)) (retK Tryd.prog Tryd.f3.results.toList R))))) (loopK B3_1 (blockK 0 [] (seqK (fun E w => cutB (findL M3.cuts (headReg c3_0)) Tryd.prog M3 c3_0 E w (retK Tryd.prog Tryd.f3.results.toList R) fun E => den Tryd.prog M3 c3_0 E w (retK Tryd.prog Tryd.f3.results.toList R)) (retK Tryd.prog Tryd.f3.results.toList R))))))
theorem b3 : Tryd.f3.body = some c3 := by kernel_rfl
theorem n3 : Tryd.f3.ntmps = M3.N := by kernel_rfl
theorem u3 {p0_most : Int} {p1_acts_a : Option Addr} {p1_acts_n : Nat} {p1_acts_c : Nat} {w : World} {R : Ending → World → Prop} (h : den Tryd.prog M3 c3 (argE 0 [(Value.int IntKind.i64 p0_most), (Value.slice p1_acts_a p1_acts_n p1_acts_c)]) w (retK Tryd.prog Tryd.f3.results.toList R)) : Calls Tryd.prog 3 #[(Value.int IntKind.i64 p0_most), (Value.slice p1_acts_a p1_acts_n p1_acts_c)] w R := calls_den okProg Tryd.func3 b3 n3 (Nat.le_of_ble_eq_true rfl) h
theorem t3 (p0_most : Int) (p1_acts_a : Option Addr) (p1_acts_n : Nat) (p1_acts_c : Nat) (w : World) (R : Ending → World → Prop) : den Tryd.prog M3 c3 (argE 0 [(Value.int IntKind.i64 p0_most), (Value.slice p1_acts_a p1_acts_n p1_acts_c)]) w (retK Tryd.prog Tryd.f3.results.toList R) =
(Call Tryd.prog 6 [Value.int IntKind.i64 p0_most] w fun e w' =>
  ∃ p n,
    e = Ending.returned (Value.tuple #[Value.pointer p, Value.int IntKind.i64 n]) ∧
      ((n != (0 : Int)) = true →
          (decide (p0_most < (1 : Int)) = false →
              (decide (p0_most > (1024 : Int)) = true →
                  Call Tryd.prog 7 [] w' fun e w' =>
                    ∃ b, e = Ending.returned (Value.bool b) ∧ R (Ending.returned (Value.bool b)) w') ∧
                (decide (p0_most > (1024 : Int)) = false → R (Ending.returned (Value.bool false)) w')) ∧
            (decide (p0_most < (1 : Int)) = true →
              Call Tryd.prog 7 [] w' fun e w' =>
                ∃ b, e = Ending.returned (Value.bool b) ∧ R (Ending.returned (Value.bool b)) w')) ∧
        ((n != (0 : Int)) = false →
          Cut
            (WP Tryd.prog 80 (Code.loop c3_1) (e3_1 p0_most p1_acts_a p1_acts_n p1_acts_c p (0 : Int)) w'
              (k3_1 R)))) := by kernel_rfl
theorem t3_0  (w : World) (R : Ending → World → Prop) : den Tryd.prog M3 c3_0 (e3_0 ) w (k3_0 R) =
(Call Tryd.prog 7 [] w fun e w' =>
  ∃ b, e = Ending.returned (Value.bool b) ∧ R (Ending.returned (Value.bool b)) w') := by kernel_rfl
theorem t3_1 (p0_most : Int) (p1_acts_a : Option Addr) (p1_acts_n : Nat) (p1_acts_c : Nat) (p5_t : Option Addr) (p7_i : Int) (w : World) (B3_1 : Env → World → Prop) (R : Ending → World → Prop) : den Tryd.prog M3 c3_1 (e3_1 p0_most p1_acts_a p1_acts_n p1_acts_c p5_t p7_i) w (loopK B3_1 (k3_1 R)) =
((decide (p7_i < (↑p1_acts_n : Int)) = true →
    (decide (p7_i < (200 : Int)) = true →
        ((0 : Int) ≤ p7_i ∧ p7_i < (↑p1_acts_n : Int)) ∧
          ∃ a,
            p1_acts_a = some a ∧
              ∃ n,
                World.cell? w (Addr.add a (Int.toNat p7_i * 1)) = some (Value.int IntKind.i64 n) ∧
                  ((n != (0 : Int)) = true →
                      ((0 : Int) ≤ p7_i ∧ p7_i < (↑p1_acts_n : Int)) ∧
                        ∃ a,
                          p1_acts_a = some a ∧
                            ∃ n,
                              World.cell? w (Addr.add a (Int.toNat p7_i * 1)) =
                                  some (Value.int IntKind.i64 n) ∧
                                Call Tryd.prog 8 [Value.pointer p5_t, Value.int IntKind.i64 n] w fun e w' =>
                                  ∃ n,
                                    e = Ending.returned (Value.int IntKind.i64 n) ∧
                                      B3_1
                                        [(0, SV.v (Value.int IntKind.i64 p0_most)),
                                          (1, SV.v (Value.slice p1_acts_a p1_acts_n p1_acts_c)),
                                          (5, SV.v (Value.pointer p5_t)),
                                          (7,
                                            SV.v
                                              (Value.int IntKind.i64 (IntKind.wrap IntKind.i64 (p7_i + (1 : Int)))))]
                                        w') ∧
                    ((n != (0 : Int)) = false →
                      Call Tryd.prog 9 [Value.pointer p5_t] w fun e w' =>
                        ∃ p n c,
                          e = Ending.returned (Value.slice p n c) ∧
                            Call Tryd.prog 10 [Value.pointer p5_t] w' fun e w' =>
                              ∃ n_1 n_2,
                                e =
                                    Ending.returned
                                      (Value.tuple #[Value.int IntKind.i64 n_1, Value.int IntKind.i64 n_2]) ∧
                                  ((!(n_2 == (0 : Int)) == decide ((↑n : Int) < p0_most)) = true →
                                      R (Ending.returned (Value.bool false)) w') ∧
                                    ((!(n_2 == (0 : Int)) == decide ((↑n : Int) < p0_most)) = false →
                                      Cut
                                        (WP Tryd.prog 80 (Code.loop c3_3)
                                          (e3_3 p0_most p1_acts_a p1_acts_n p1_acts_c p5_t p7_i p n c n_1 n_2
                                            (0 : Int))
                                          w' (k3_3 B3_1 R))))) ∧
      (decide (p7_i < (200 : Int)) = false → CutD Tryd.prog M3 c3_0 e3_0 w (k3_0 R))) ∧
  (decide (p7_i < (↑p1_acts_n : Int)) = false → CutD Tryd.prog M3 c3_0 e3_0 w (k3_0 R))) := by kernel_rfl
theorem t3_3 (p0_most : Int) (p1_acts_a : Option Addr) (p1_acts_n : Nat) (p1_acts_c : Nat) (p5_t : Option Addr) (p7_i : Int) (p8_was_a : Option Addr) (p8_was_n : Nat) (p8_was_c : Nat) (p9_n : Int) (p10_f : Int) (p11_k : Int) (w : World) (B3_1 : Env → World → Prop) (B3_3 : Env → World → Prop) (R : Ending → World → Prop) : den Tryd.prog M3 c3_3 (e3_3 p0_most p1_acts_a p1_acts_n p1_acts_c p5_t p7_i p8_was_a p8_was_n p8_was_c p9_n p10_f p11_k) w (loopK B3_3 (k3_3 B3_1 R)) =
((decide (p11_k < (↑p8_was_n : Int)) = true →
    ((p10_f == (0 : Int)) = true →
        ((0 : Int) ≤ p11_k ∧ p11_k < (↑p8_was_n : Int)) ∧
          ∃ a,
            p8_was_a = some a ∧
              ∃ n,
                World.cell? w (Addr.add a (Int.toNat p11_k * 1)) = some (Value.int IntKind.i64 n) ∧
                  ((n == p9_n) = true → R (Ending.returned (Value.bool false)) w) ∧
                    ((n == p9_n) = false →
                      B3_3
                        [(0, SV.v (Value.int IntKind.i64 p0_most)),
                          (1, SV.v (Value.slice p1_acts_a p1_acts_n p1_acts_c)),
                          (5, SV.v (Value.pointer p5_t)), (7, SV.v (Value.int IntKind.i64 p7_i)),
                          (8, SV.v (Value.slice p8_was_a p8_was_n p8_was_c)),
                          (9, SV.v (Value.int IntKind.i64 p9_n)),
                          (10, SV.v (Value.int IntKind.i64 p10_f)),
                          (11, SV.v (Value.int IntKind.i64 (IntKind.wrap IntKind.i64 (p11_k + (1 : Int)))))]
                        w)) ∧
      ((p10_f == (0 : Int)) = false →
        B3_3
          [(0, SV.v (Value.int IntKind.i64 p0_most)),
            (1, SV.v (Value.slice p1_acts_a p1_acts_n p1_acts_c)), (5, SV.v (Value.pointer p5_t)),
            (7, SV.v (Value.int IntKind.i64 p7_i)),
            (8, SV.v (Value.slice p8_was_a p8_was_n p8_was_c)),
            (9, SV.v (Value.int IntKind.i64 p9_n)), (10, SV.v (Value.int IntKind.i64 p10_f)),
            (11, SV.v (Value.int IntKind.i64 (IntKind.wrap IntKind.i64 (p11_k + (1 : Int)))))]
          w)) ∧
  (decide (p11_k < (↑p8_was_n : Int)) = false →
    B3_1
      [(0, SV.v (Value.int IntKind.i64 p0_most)),
        (1, SV.v (Value.slice p1_acts_a p1_acts_n p1_acts_c)), (5, SV.v (Value.pointer p5_t)),
        (7, SV.v (Value.int IntKind.i64 (IntKind.wrap IntKind.i64 (p7_i + (1 : Int)))))]
      w)) := by kernel_rfl
/-! davit/davitlaw04.SlotPlays -/
def M4 : Mt := { N := 116, keep := [(0, [0, 1, 2]), (1, [0, 1, 2, 7, 8]), (2, [0, 1, 2, 7, 8, 9, 10]), (3, [0, 1, 2, 7, 9, 36]), (4, [6]), (5, [0, 1, 2, 7, 9, 38]), (6, [6]), (7, [0, 1, 2, 7, 9, 11]), (8, [0, 1, 2, 7, 9, 11, 47]), (9, [0, 1, 2, 7, 9, 11]), (10, [0, 1, 2, 7, 9, 11, 54]), (11, [0, 1, 2, 7, 9, 11, 12, 13]), (12, [0, 1, 2, 7, 9, 11, 12, 13, 14, 15]), (13, [0, 1, 2, 7, 9, 11, 72]), (14, [6]), (15, [0, 1, 2, 7, 9, 11, 85]), (16, [6]), (17, [0, 1, 2, 7, 9, 11, 16]), (18, [0, 1, 2, 7, 9, 11, 114]), (19, [6]), (20, [6])], ords := [(15, [0, 1, 2, 3, 4, 6, 7, 8, 9, 10, 5, 11, 12])], bk := [(0, []), (1, [0, 1, 2, 7, 9, 11])], cuts := [(17, [0, 1, 2, 7, 9, 11]), (20, [])], lk := [(8, [0, 1, 2, 7, 9, 11])] }
noncomputable def c4 : Code := bodyOf Tryd.f4
noncomputable def c4_0 : Code := c4.sr.sr.sr.sr.sr.sr
noncomputable def c4_1 : Code := c4.sr.sr.sr.sr.sr.sl.sr.sl.sl
noncomputable def c4_2 : Code := c4.sr.sr.sr.sr.sr.sl.sr.sl.sl.sr.sr
noncomputable def c4_3 : Code := c4.sr.sr.sr.sr.sr.sl.sr.sl.sl.sr.sl.sl.sr
def e4_0  : Env := []
def e4_1 (p0_most : Int) (p1_acts_a : Option Addr) (p1_acts_n : Nat) (p1_acts_c : Nat) (p2_n : Int) (p7_t : Option Addr) (p9_r : Option Addr) (p11_i : Int) : Env := [(0, SV.v (Value.int IntKind.i64 p0_most)), (1, SV.v (Value.slice p1_acts_a p1_acts_n p1_acts_c)), (2, SV.v (Value.int IntKind.i64 p2_n)), (7, SV.v (Value.pointer p7_t)), (9, SV.v (Value.pointer p9_r)), (11, SV.v (Value.int IntKind.i64 p11_i))]
def e4_3 (p0_most : Int) (p1_acts_a : Option Addr) (p1_acts_n : Nat) (p1_acts_c : Nat) (p2_n : Int) (p7_t : Option Addr) (p9_r : Option Addr) (p11_i : Int) : Env := [(0, SV.v (Value.int IntKind.i64 p0_most)), (1, SV.v (Value.slice p1_acts_a p1_acts_n p1_acts_c)), (2, SV.v (Value.int IntKind.i64 p2_n)), (7, SV.v (Value.pointer p7_t)), (9, SV.v (Value.pointer p9_r)), (11, SV.v (Value.int IntKind.i64 p11_i))]
def k4_0 (R : Ending → World → Prop) : Cont := retK Tryd.prog Tryd.f4.results.toList R
def k4_1 (R : Ending → World → Prop) : Cont := blockK 0 [] (seqK (fun E w => cutB (findL M4.cuts (headReg c4_0)) Tryd.prog M4 c4_0 E w (retK Tryd.prog Tryd.f4.results.toList R) fun E => den Tryd.prog M4 c4_0 E w (retK Tryd.prog Tryd.f4.results.toList R)) (retK Tryd.prog Tryd.f4.results.toList R))
def k4_3 (B4_1 : Env → World → Prop) (R : Ending → World → Prop) : Cont := blockK 1 [0, 1, 2, 7, 9, 11] (seqK (fun E w => cutB (findL M4.cuts (headReg c4_2)) Tryd.prog M4 c4_2 E w (loopK B4_1 (blockK 0 [] (seqK (fun E w => cutB (findL M4.cuts (headReg c4_0)) Tryd.prog M4 c4_0 E w (retK Tryd.prog Tryd.f4.results.toList R) fun E => den Tryd.prog M4 c4_0 E w (retK Tryd.prog Tryd.f4.results.toList R)) (retK Tryd.prog Tryd.f4.results.toList R)))) fun E => den Tryd.prog M4 c4_2 E w (loopK B4_1 (blockK 0 [] (seqK (fun E w => cutB (findL M4.cuts (headReg c4_0)) Tryd.prog M4 c4_0 E w (retK Tryd.prog Tryd.f4.results.toList R) fun E => den Tryd.prog M4 c4_0 E w (retK Tryd.prog Tryd.f4.results.toList R)) (retK Tryd.prog Tryd.f4.results.toList R))))) (loopK B4_1 (blockK 0 [] (seqK (fun E w => cutB (findL M4.cuts (headReg c4_0)) Tryd.prog M4 c4_0 E w (retK Tryd.prog Tryd.f4.results.toList R) fun E => den Tryd.prog M4 c4_0 E w (retK Tryd.prog Tryd.f4.results.toList R)) (retK Tryd.prog Tryd.f4.results.toList R)))))
theorem b4 : Tryd.f4.body = some c4 := by kernel_rfl
theorem n4 : Tryd.f4.ntmps = M4.N := by kernel_rfl
theorem u4 {p0_most : Int} {p1_acts_a : Option Addr} {p1_acts_n : Nat} {p1_acts_c : Nat} {p2_n : Int} {w : World} {R : Ending → World → Prop} (h : den Tryd.prog M4 c4 (argE 0 [(Value.int IntKind.i64 p0_most), (Value.slice p1_acts_a p1_acts_n p1_acts_c), (Value.int IntKind.i64 p2_n)]) w (retK Tryd.prog Tryd.f4.results.toList R)) : Calls Tryd.prog 4 #[(Value.int IntKind.i64 p0_most), (Value.slice p1_acts_a p1_acts_n p1_acts_c), (Value.int IntKind.i64 p2_n)] w R := calls_den okProg Tryd.func4 b4 n4 (Nat.le_of_ble_eq_true rfl) h
theorem t4 (p0_most : Int) (p1_acts_a : Option Addr) (p1_acts_n : Nat) (p1_acts_c : Nat) (p2_n : Int) (w : World) (R : Ending → World → Prop) : den Tryd.prog M4 c4 (argE 0 [(Value.int IntKind.i64 p0_most), (Value.slice p1_acts_a p1_acts_n p1_acts_c), (Value.int IntKind.i64 p2_n)]) w (retK Tryd.prog Tryd.f4.results.toList R) =
(Call Tryd.prog 6 [Value.int IntKind.i64 p0_most] w fun e w' =>
  ∃ p n,
    e = Ending.returned (Value.tuple #[Value.pointer p, Value.int IntKind.i64 n]) ∧
      Call Tryd.prog 11 [Value.int IntKind.i64 p0_most] w' fun e w' =>
        ∃ p_1 n_1,
          e = Ending.returned (Value.tuple #[Value.pointer p_1, Value.int IntKind.i64 n_1]) ∧
            ((n != n_1) = false →
                ((!Option.isNone p == Option.isNone p_1) = true → R (Ending.returned (Value.bool false)) w') ∧
                  ((!Option.isNone p == Option.isNone p_1) = false →
                    (Option.isNone p_1 = true →
                        Call Tryd.prog 7 [] w' fun e w' =>
                          ∃ b, e = Ending.returned (Value.bool b) ∧ R (Ending.returned (Value.bool b)) w') ∧
                      (Option.isNone p_1 = false →
                        Cut
                          (WP Tryd.prog 116 (Code.loop c4_1)
                            (e4_1 p0_most p1_acts_a p1_acts_n p1_acts_c p2_n p p_1 (0 : Int)) w' (k4_1 R))))) ∧
              ((n != n_1) = true → R (Ending.returned (Value.bool false)) w')) := by kernel_rfl
theorem t4_0  (w : World) (R : Ending → World → Prop) : den Tryd.prog M4 c4_0 (e4_0 ) w (k4_0 R) =
(Call Tryd.prog 7 [] w fun e w' =>
  ∃ b, e = Ending.returned (Value.bool b) ∧ R (Ending.returned (Value.bool b)) w') := by kernel_rfl
theorem t4_1 (p0_most : Int) (p1_acts_a : Option Addr) (p1_acts_n : Nat) (p1_acts_c : Nat) (p2_n : Int) (p7_t : Option Addr) (p9_r : Option Addr) (p11_i : Int) (w : World) (B4_1 : Env → World → Prop) (R : Ending → World → Prop) : den Tryd.prog M4 c4_1 (e4_1 p0_most p1_acts_a p1_acts_n p1_acts_c p2_n p7_t p9_r p11_i) w (loopK B4_1 (k4_1 R)) =
((decide (p11_i < (↑p1_acts_n : Int)) = true →
    (decide (p11_i < (200 : Int)) = true →
        ((0 : Int) ≤ p11_i ∧ p11_i < (↑p1_acts_n : Int)) ∧
          ∃ a,
            p1_acts_a = some a ∧
              ∃ n,
                World.cell? w (Addr.add a (Int.toNat p11_i * 1)) = some (Value.int IntKind.i64 n) ∧
                  ((n == (0 : Int)) = true →
                      Call Tryd.prog 10 [Value.pointer p7_t] w fun e w' =>
                        ∃ n n_1,
                          e = Ending.returned (Value.tuple #[Value.int IntKind.i64 n, Value.int IntKind.i64 n_1]) ∧
                            Call Tryd.prog 12 [Value.pointer p9_r] w' fun e w' =>
                              ∃ n_2 n_3,
                                e =
                                    Ending.returned
                                      (Value.tuple #[Value.int IntKind.i64 n_2, Value.int IntKind.i64 n_3]) ∧
                                  ((n != n_2) = false →
                                      ((n_1 != n_3) = true → R (Ending.returned (Value.bool false)) w') ∧
                                        ((n_1 != n_3) = false →
                                          CutD Tryd.prog M4 c4_3
                                            (e4_3 p0_most p1_acts_a p1_acts_n p1_acts_c p2_n p7_t p9_r p11_i) w'
                                            (k4_3 B4_1 R))) ∧
                                    ((n != n_2) = true → R (Ending.returned (Value.bool false)) w')) ∧
                    ((n == (0 : Int)) = false →
                      ∀ (w' : World),
                        World.heap w' = World.heap w →
                          World.os w' = World.os w →
                            World.tape w' = World.tape w →
                              World.output w' = World.output w →
                                ((0 : Int) ≤ p11_i ∧ p11_i < (↑p1_acts_n : Int)) ∧
                                  ∃ a,
                                    p1_acts_a = some a ∧
                                      ∃ n,
                                        World.cell? w' (Addr.add a (Int.toNat p11_i * 1)) =
                                            some (Value.int IntKind.i64 n) ∧
                                          ((0 : Int) ≤ p11_i ∧ p11_i < (↑p1_acts_n : Int)) ∧
                                            ∃ a,
                                              p1_acts_a = some a ∧
                                                ∃ n_1,
                                                  World.cell? w' (Addr.add a (Int.toNat p11_i * 1)) =
                                                      some (Value.int IntKind.i64 n_1) ∧
                                                    Call Tryd.prog 8
                                                      [Value.pointer p7_t, Value.int IntKind.i64 n] w' fun e w' =>
                                                      ∃ n,
                                                        e = Ending.returned (Value.int IntKind.i64 n) ∧
                                                          World.cell? w' (Addr.add a (Int.toNat p11_i * 1)) =
                                                              some (Value.int IntKind.i64 n_1) ∧
                                                            Call Tryd.prog 13
                                                              [Value.pointer p9_r, Value.int IntKind.i64 n_1] w'
                                                              fun e w' =>
                                                              ∃ n_2,
                                                                e = Ending.returned (Value.int IntKind.i64 n_2) ∧
                                                                  ((n != n_2) = true →
                                                                      R (Ending.returned (Value.bool false)) w') ∧
                                                                    ((n != n_2) = false →
                                                                      CutD Tryd.prog M4 c4_3
                                                                        (e4_3 p0_most p1_acts_a p1_acts_n p1_acts_c
                                                                          p2_n p7_t p9_r p11_i)
                                                                        w' (k4_3 B4_1 R)))) ∧
      (decide (p11_i < (200 : Int)) = false → CutD Tryd.prog M4 c4_0 e4_0 w (k4_0 R))) ∧
  (decide (p11_i < (↑p1_acts_n : Int)) = false → CutD Tryd.prog M4 c4_0 e4_0 w (k4_0 R))) := by kernel_rfl
theorem t4_3 (p0_most : Int) (p1_acts_a : Option Addr) (p1_acts_n : Nat) (p1_acts_c : Nat) (p2_n : Int) (p7_t : Option Addr) (p9_r : Option Addr) (p11_i : Int) (w : World) (B4_1 : Env → World → Prop) (R : Ending → World → Prop) : den Tryd.prog M4 c4_3 (e4_3 p0_most p1_acts_a p1_acts_n p1_acts_c p2_n p7_t p9_r p11_i) w (k4_3 B4_1 R) =
(Call Tryd.prog 14 [Value.pointer p9_r] w fun e w' =>
  ∃ p n c,
    e = Ending.returned (Value.slice p n c) ∧
      Call Tryd.prog 15 [Value.pointer p7_t] w' fun e w' =>
        ∃ n_1,
          e = Ending.returned (Value.int IntKind.i64 n_1) ∧
            ((n_1 != (↑n : Int)) = false →
                Call Tryd.prog 16 [Value.pointer p7_t] w' fun e w' =>
                  ∃ n_2,
                    e = Ending.returned (Value.int IntKind.i64 n_2) ∧
                      ((n_2 != p0_most) = false →
                          Call Tryd.prog 17 [Value.pointer p7_t, Value.int IntKind.i64 p2_n] w' fun e w' =>
                            ∃ b,
                              e = Ending.returned (Value.bool b) ∧
                                Call Tryd.prog 18 [Value.pointer p9_r, Value.int IntKind.i64 p2_n] w'
                                  fun e w' =>
                                  ∃ b_1,
                                    e = Ending.returned (Value.bool b_1) ∧
                                      ((!b == b_1) = false →
                                          Call Tryd.prog 9 [Value.pointer p7_t] w' fun e w' =>
                                            ∃ p_1 n_3 c_1,
                                              e = Ending.returned (Value.slice p_1 n_3 c_1) ∧
                                                Call Tryd.prog 19 [Value.slice p_1 n_3 c_1, Value.slice p n c]
                                                  w' fun e w' =>
                                                  ∃ b,
                                                    e = Ending.returned (Value.bool b) ∧
                                                      ((!b) = true → R (Ending.returned (Value.bool false)) w') ∧
                                                        ((!b) = false →
                                                          B4_1
                                                            [(0, SV.v (Value.int IntKind.i64 p0_most)),
                                                              (1,
                                                                SV.v (Value.slice p1_acts_a p1_acts_n p1_acts_c)),
                                                              (2, SV.v (Value.int IntKind.i64 p2_n)),
                                                              (7, SV.v (Value.pointer p7_t)),
                                                              (9, SV.v (Value.pointer p9_r)),
                                                              (11,
                                                                SV.v
                                                                  (Value.int IntKind.i64
                                                                    (IntKind.wrap IntKind.i64 (p11_i + (1 : Int)))))]
                                                            w')) ∧
                                        ((!b == b_1) = true → R (Ending.returned (Value.bool false)) w')) ∧
                        ((n_2 != p0_most) = true → R (Ending.returned (Value.bool false)) w')) ∧
              ((n_1 != (↑n : Int)) = true → R (Ending.returned (Value.bool false)) w')) := by kernel_rfl
/-! davit/davitlaw04.SlotNil -/
def M5 : Mt := { N := 44, keep := [(0, [0]), (1, [0, 3]), (2, [0, 3, 5]), (3, [2])], ords := [], bk := [], cuts := [], lk := [] }
noncomputable def c5 : Code := bodyOf Tryd.f5
theorem b5 : Tryd.f5.body = some c5 := by kernel_rfl
theorem n5 : Tryd.f5.ntmps = M5.N := by kernel_rfl
theorem u5 {p0_n : Int} {w : World} {R : Ending → World → Prop} (h : den Tryd.prog M5 c5 (argE 0 [(Value.int IntKind.i64 p0_n)]) w (retK Tryd.prog Tryd.f5.results.toList R)) : Calls Tryd.prog 5 #[(Value.int IntKind.i64 p0_n)] w R := calls_den okProg Tryd.func5 b5 n5 (Nat.le_of_ble_eq_true rfl) h
theorem t5 (p0_n : Int) (w : World) (R : Ending → World → Prop) : den Tryd.prog M5 c5 (argE 0 [(Value.int IntKind.i64 p0_n)]) w (retK Tryd.prog Tryd.f5.results.toList R) =
(Call Tryd.prog 10 [Value.pointer none] w fun e w' =>
  ∃ n n_1,
    e = Ending.returned (Value.tuple #[Value.int IntKind.i64 n, Value.int IntKind.i64 n_1]) ∧
      ((n_1 == (1 : Int)) = true →
          Call Tryd.prog 8 [Value.pointer none, Value.int IntKind.i64 p0_n] w' fun e w' =>
            ∃ n,
              e = Ending.returned (Value.int IntKind.i64 n) ∧
                ((n == (1 : Int)) = true →
                    Call Tryd.prog 17 [Value.pointer none, Value.int IntKind.i64 p0_n] w' fun e w' =>
                      ∃ b,
                        e = Ending.returned (Value.bool b) ∧
                          ((!b) = true →
                              Call Tryd.prog 15 [Value.pointer none] w' fun e w' =>
                                ∃ n,
                                  e = Ending.returned (Value.int IntKind.i64 n) ∧
                                    ((n == (0 : Int)) = true →
                                        Call Tryd.prog 16 [Value.pointer none] w' fun e w' =>
                                          ∃ n,
                                            e = Ending.returned (Value.int IntKind.i64 n) ∧
                                              ((n == (0 : Int)) = true →
                                                  Call Tryd.prog 9 [Value.pointer none] w' fun e w' =>
                                                    ∃ p n c,
                                                      e = Ending.returned (Value.slice p n c) ∧
                                                        (((↑n : Int) == (0 : Int)) = true →
                                                            Call Tryd.prog 7 [] w' fun e w' =>
                                                              ∃ b,
                                                                e = Ending.returned (Value.bool b) ∧
                                                                  R (Ending.returned (Value.bool b)) w') ∧
                                                          (((↑n : Int) == (0 : Int)) = false →
                                                            R (Ending.returned (Value.bool false)) w')) ∧
                                                ((n == (0 : Int)) = false →
                                                  R (Ending.returned (Value.bool false)) w')) ∧
                                      ((n == (0 : Int)) = false → R (Ending.returned (Value.bool false)) w')) ∧
                            ((!b) = false → R (Ending.returned (Value.bool false)) w')) ∧
                  ((n == (1 : Int)) = false → R (Ending.returned (Value.bool false)) w')) ∧
        ((n_1 == (1 : Int)) = false → R (Ending.returned (Value.bool false)) w')) := by kernel_rfl
/-! davit/slot.New -/
def M6 : Mt := { N := 18, keep := [(0, [0]), (1, [0, 9]), (2, [2, 3]), (3, [2, 3])], ords := [], bk := [], cuts := [], lk := [] }
noncomputable def c6 : Code := bodyOf Tryd.f6
theorem b6 : Tryd.f6.body = some c6 := by kernel_rfl
theorem n6 : Tryd.f6.ntmps = M6.N := by kernel_rfl
theorem u6 {p0_most : Int} {w : World} {R : Ending → World → Prop} (h : den Tryd.prog M6 c6 (argE 0 [(Value.int IntKind.i64 p0_most)]) w (retK Tryd.prog Tryd.f6.results.toList R)) : Calls Tryd.prog 6 #[(Value.int IntKind.i64 p0_most)] w R := calls_den okProg Tryd.func6 b6 n6 (Nat.le_of_ble_eq_true rfl) h
theorem t6 (p0_most : Int) (w : World) (R : Ending → World → Prop) : den Tryd.prog M6 c6 (argE 0 [(Value.int IntKind.i64 p0_most)]) w (retK Tryd.prog Tryd.f6.results.toList R) =
((decide (p0_most < (1 : Int)) = false →
    (decide (p0_most > (1024 : Int)) = true →
        R (Ending.returned (Value.tuple #[Value.pointer none, Value.int IntKind.i64 2])) w) ∧
      (decide (p0_most > (1024 : Int)) = false →
        (64 : Int) ≠ (0 : Int) ∧
          ∃ p n c w',
            Sem.run Tryd.prog
                  (Instr.makeSlice 40
                    (Value.int IntKind.i64
                      (IntKind.wrap IntKind.i64
                        (Int.tdiv
                          (IntKind.wrap IntKind.i64 (IntKind.wrap IntKind.i64 (p0_most + (64 : Int)) - (1 : Int)))
                          (64 : Int))))
                    (Value.int IntKind.i64
                      (IntKind.wrap IntKind.i64
                        (Int.tdiv
                          (IntKind.wrap IntKind.i64 (IntKind.wrap IntKind.i64 (p0_most + (64 : Int)) - (1 : Int)))
                          (64 : Int)))))
                  w =
                Result.ok (Value.slice p n c) w' ∧
              New w' [Value.slice p n c, Value.int IntKind.i64 p0_most, Value.int IntKind.i64 0] 42
                fun p w' =>
                R (Ending.returned (Value.tuple #[Value.pointer (some p), Value.int IntKind.i64 0])) w')) ∧
  (decide (p0_most < (1 : Int)) = true →
    R (Ending.returned (Value.tuple #[Value.pointer none, Value.int IntKind.i64 2])) w)) := by kernel_rfl
/-! davit/davitlaw04.known -/
def M7 : Mt := { N := 48, keep := [(0, []), (1, [1, 2]), (2, [1, 15]), (3, [0]), (4, [1]), (5, [1]), (6, [1, 3]), (7, [1, 3, 4, 5]), (8, [0])], ords := [], bk := [], cuts := [], lk := [] }
noncomputable def c7 : Code := bodyOf Tryd.f7
theorem b7 : Tryd.f7.body = some c7 := by kernel_rfl
theorem n7 : Tryd.f7.ntmps = M7.N := by kernel_rfl
theorem u7  {w : World} {R : Ending → World → Prop} (h : den Tryd.prog M7 c7 (argE 0 []) w (retK Tryd.prog Tryd.f7.results.toList R)) : Calls Tryd.prog 7 #[] w R := calls_den okProg Tryd.func7 b7 n7 (Nat.le_of_ble_eq_true rfl) h
theorem t7  (w : World) (R : Ending → World → Prop) : den Tryd.prog M7 c7 (argE 0 []) w (retK Tryd.prog Tryd.f7.results.toList R) =
(Call Tryd.prog 6 [Value.int IntKind.i64 3] w fun e w' =>
  ∃ p n,
    e = Ending.returned (Value.tuple #[Value.pointer p, Value.int IntKind.i64 n]) ∧
      ((n != (0 : Int)) = false →
          (Option.isNone p = true → R (Ending.returned (Value.bool false)) w') ∧
            (Option.isNone p = false →
              Call Tryd.prog 10 [Value.pointer p] w' fun e w' =>
                ∃ n n_1,
                  e = Ending.returned (Value.tuple #[Value.int IntKind.i64 n, Value.int IntKind.i64 n_1]) ∧
                    Call Tryd.prog 10 [Value.pointer p] w' fun e w' =>
                      ∃ n n_2,
                        e = Ending.returned (Value.tuple #[Value.int IntKind.i64 n, Value.int IntKind.i64 n_2]) ∧
                          Call Tryd.prog 8 [Value.pointer p, Value.int IntKind.i64 1] w' fun e w' =>
                            ∃ n,
                              e = Ending.returned (Value.int IntKind.i64 n) ∧
                                Call Tryd.prog 10 [Value.pointer p] w' fun e w' =>
                                  ∃ n_3 n_4,
                                    e =
                                        Ending.returned
                                          (Value.tuple #[Value.int IntKind.i64 n_3, Value.int IntKind.i64 n_4]) ∧
                                      ((n == (0 : Int)) = true →
                                          ((n_3 == (1 : Int)) = true →
                                              ((n_4 == (0 : Int)) = true →
                                                  Call Tryd.prog 9 [Value.pointer p] w' fun e w' =>
                                                    ∃ p_1 n c,
                                                      e = Ending.returned (Value.slice p_1 n c) ∧
                                                        New w'
                                                          [Value.int IntKind.i64 1,
                                                            Value.int IntKind.i64 2]
                                                          3 fun p_2 w' =>
                                                          Call Tryd.prog 19
                                                            [Value.slice p_1 n c,
                                                              Value.slice (some p_2) 2 2]
                                                            w' fun e w' =>
                                                            ∃ b,
                                                              e = Ending.returned (Value.bool b) ∧
                                                                (b = true →
                                                                    Call Tryd.prog 16 [Value.pointer p] w'
                                                                      fun e w' =>
                                                                      ∃ n,
                                                                        e = Ending.returned (Value.int IntKind.i64 n) ∧
                                                                          R
                                                                            (Ending.returned
                                                                              (Value.bool (n == (3 : Int))))
                                                                            w') ∧
                                                                  (b = false →
                                                                    R (Ending.returned (Value.bool false)) w')) ∧
                                                ((n_4 == (0 : Int)) = false →
                                                  R (Ending.returned (Value.bool false)) w')) ∧
                                            ((n_3 == (1 : Int)) = false → R (Ending.returned (Value.bool false)) w')) ∧
                                        ((n == (0 : Int)) = false → R (Ending.returned (Value.bool false)) w'))) ∧
        ((n != (0 : Int)) = true → R (Ending.returned (Value.bool false)) w')) := by kernel_rfl
/-! (*davit/slot.Table).Give -/
def M8 : Mt := { N := 40, keep := [(0, [0, 1]), (1, [0, 5, 6]), (2, [0, 5, 6, 13]), (3, [4]), (4, [0, 5, 6, 16]), (5, [4]), (6, [0]), (7, []), (8, [4])], ords := [], bk := [(0, [0, 5, 6])], cuts := [], lk := [] }
noncomputable def c8 : Code := bodyOf Tryd.f8
theorem b8 : Tryd.f8.body = some c8 := by kernel_rfl
theorem n8 : Tryd.f8.ntmps = M8.N := by kernel_rfl
theorem u8 {p0_t : Option Addr} {p1_n : Int} {w : World} {R : Ending → World → Prop} (h : den Tryd.prog M8 c8 (argE 0 [(Value.pointer p0_t), (Value.int IntKind.i64 p1_n)]) w (retK Tryd.prog Tryd.f8.results.toList R)) : Calls Tryd.prog 8 #[(Value.pointer p0_t), (Value.int IntKind.i64 p1_n)] w R := calls_den okProg Tryd.func8 b8 n8 (Nat.le_of_ble_eq_true rfl) h
theorem t8 (p0_t : Option Addr) (p1_n : Int) (w : World) (R : Ending → World → Prop) : den Tryd.prog M8 c8 (argE 0 [(Value.pointer p0_t), (Value.int IntKind.i64 p1_n)]) w (retK Tryd.prog Tryd.f8.results.toList R) =
(Call Tryd.prog 20 [Value.pointer p0_t, Value.int IntKind.i64 p1_n] w fun e w' =>
  ∃ p n,
    e = Ending.returned (Value.tuple #[Value.pointer p, Value.int IntKind.u64 n]) ∧
      (Option.isNone p0_t = true → R (Ending.returned (Value.int IntKind.i64 1)) w') ∧
        (Option.isNone p0_t = false →
          (Option.isNone p = false →
              ∃ a,
                p = some a ∧
                  ∃ n_1,
                    World.cell? w' a = some (Value.int IntKind.u64 n_1) ∧
                      ((bitsOp BinOp.and IntKind.u64 n_1 n == (0 : Int)) = true →
                          R (Ending.returned (Value.int IntKind.i64 4)) w') ∧
                        ((bitsOp BinOp.and IntKind.u64 n_1 n == (0 : Int)) = false →
                          ∃ a,
                            p = some a ∧
                              ∃ n_2,
                                World.cell? w' a = some (Value.int IntKind.u64 n_2) ∧
                                  ∃ a,
                                    p = some a ∧
                                      Wr w' a [Value.int IntKind.u64 (bitsOp BinOp.andNot IntKind.u64 n_2 n)] fun w' =>
                                        ∃ a,
                                          p0_t = some a ∧
                                            ∃ n,
                                              World.cell? w' (Addr.add a 2) = some (Value.int IntKind.i64 n) ∧
                                                ∃ a,
                                                  p0_t = some a ∧
                                                    Wr w' (Addr.add a 2)
                                                      [Value.int IntKind.i64 (IntKind.wrap IntKind.i64 (n - (1 : Int)))]
                                                      fun w' =>
                                                      R (Ending.returned (Value.int IntKind.i64 0)) w')) ∧
            (Option.isNone p = true → R (Ending.returned (Value.int IntKind.i64 4)) w'))) := by kernel_rfl
/-! (*davit/slot.Table).List -/
def M9 : Mt := { N := 21, keep := [(0, [0]), (1, [0, 3]), (2, [0, 3, 6, 7]), (3, [0, 3, 6, 7, 8]), (4, [0, 3, 4, 6, 7]), (5, [0, 3, 4, 6, 7, 13]), (6, [0, 3, 6, 7]), (7, [0, 3, 6, 7]), (8, [2])], ords := [], bk := [(0, [3]), (1, [0, 3, 6, 7])], cuts := [], lk := [(3, [0, 3, 6, 7])] }
noncomputable def c9 : Code := bodyOf Tryd.f9
noncomputable def c9_0 : Code := c9.sr.sr.sr
noncomputable def c9_1 : Code := c9.sr.sr.sl.sr.sl.sl
def e9_1 (p0_t : Option Addr) (p3_l_a : Option Addr) (p3_l_n : Nat) (p3_l_c : Nat) (p6_t : Int) (p7_t : Int) : Env := [(0, SV.v (Value.pointer p0_t)), (3, SV.v (Value.slice p3_l_a p3_l_n p3_l_c)), (6, SV.v (Value.int IntKind.i64 p6_t)), (7, SV.v (Value.int IntKind.i64 p7_t))]
def k9_1 (R : Ending → World → Prop) : Cont := blockK 0 [3] (seqK (fun E w => cutB (findL M9.cuts (headReg c9_0)) Tryd.prog M9 c9_0 E w (retK Tryd.prog Tryd.f9.results.toList R) fun E => den Tryd.prog M9 c9_0 E w (retK Tryd.prog Tryd.f9.results.toList R)) (retK Tryd.prog Tryd.f9.results.toList R))
theorem b9 : Tryd.f9.body = some c9 := by kernel_rfl
theorem n9 : Tryd.f9.ntmps = M9.N := by kernel_rfl
theorem u9 {p0_t : Option Addr} {w : World} {R : Ending → World → Prop} (h : den Tryd.prog M9 c9 (argE 0 [(Value.pointer p0_t)]) w (retK Tryd.prog Tryd.f9.results.toList R)) : Calls Tryd.prog 9 #[(Value.pointer p0_t)] w R := calls_den okProg Tryd.func9 b9 n9 (Nat.le_of_ble_eq_true rfl) h
theorem t9 (p0_t : Option Addr) (w : World) (R : Ending → World → Prop) : den Tryd.prog M9 c9 (argE 0 [(Value.pointer p0_t)]) w (retK Tryd.prog Tryd.f9.results.toList R) =
(Call Tryd.prog 16 [Value.pointer p0_t] w fun e w' =>
  ∃ n,
    e = Ending.returned (Value.int IntKind.i64 n) ∧
      Cut (WP Tryd.prog 21 (Code.loop c9_1) (e9_1 p0_t none 0 0 n (0 : Int)) w' (k9_1 R))) := by kernel_rfl
theorem t9_1 (p0_t : Option Addr) (p3_l_a : Option Addr) (p3_l_n : Nat) (p3_l_c : Nat) (p6_t : Int) (p7_t : Int) (w : World) (B9_1 : Env → World → Prop) (R : Ending → World → Prop) : den Tryd.prog M9 c9_1 (e9_1 p0_t p3_l_a p3_l_n p3_l_c p6_t p7_t) w (loopK B9_1 (k9_1 R)) =
((decide (p7_t < p6_t) = true →
    Call Tryd.prog 17
      [Value.pointer p0_t, Value.int IntKind.i64 (IntKind.wrap IntKind.i64 (p7_t + (1 : Int)))] w fun e w' =>
      ∃ b,
        e = Ending.returned (Value.bool b) ∧
          (b = true →
              New w' [Value.int IntKind.i64 (IntKind.wrap IntKind.i64 (p7_t + (1 : Int)))] 3 fun p w' =>
                ∃ p_1 n c w'_1,
                  Sem.run Tryd.prog
                        (Builtin.append_ #[22, 22] 22
                          #[Value.slice p3_l_a p3_l_n p3_l_c, Value.slice (some p) 1 1])
                        w' =
                      Result.ok (Value.slice p_1 n c) w'_1 ∧
                    B9_1
                      [(0, SV.v (Value.pointer p0_t)), (3, SV.v (Value.slice p_1 n c)),
                        (6, SV.v (Value.int IntKind.i64 p6_t)),
                        (7, SV.v (Value.int IntKind.i64 (IntKind.wrap IntKind.i64 (p7_t + (1 : Int)))))]
                      w'_1) ∧
            (b = false →
              B9_1
                [(0, SV.v (Value.pointer p0_t)), (3, SV.v (Value.slice p3_l_a p3_l_n p3_l_c)),
                  (6, SV.v (Value.int IntKind.i64 p6_t)),
                  (7, SV.v (Value.int IntKind.i64 (IntKind.wrap IntKind.i64 (p7_t + (1 : Int)))))]
                w')) ∧
  (decide (p7_t < p6_t) = false → R (Ending.returned (Value.slice p3_l_a p3_l_n p3_l_c)) w)) := by kernel_rfl
/-! (*davit/slot.Table).Take -/
def M10 : Mt := { N := 59, keep := [(0, [0]), (1, [0, 7]), (2, [2, 3]), (3, [0, 10]), (4, [2, 3]), (5, [0, 23, 24, 25]), (6, [0, 23, 24, 25, 26]), (7, [0, 4, 5, 23, 24, 25]), (8, [0, 4, 6, 23, 24, 25]), (9, [0, 4, 6, 23, 24, 25, 34]), (10, [0, 4, 6]), (11, [4, 6]), (12, [2, 3]), (13, [0, 23, 24, 25]), (14, [2, 3])], ords := [(3, [0, 1, 2, 3, 4, 5, 6, 7, 8, 9]), (10, [0, 1, 2, 3, 4, 5, 6, 7, 8, 9, 10, 11])], bk := [(0, [0]), (1, []), (2, [0, 23, 24, 25])], cuts := [], lk := [(6, [0, 23, 24, 25])] }
noncomputable def c10 : Code := bodyOf Tryd.f10
noncomputable def c10_0 : Code := c10.sr.sr.sr
noncomputable def c10_1 : Code := c10.sr.sr.sl.sr.sl.sl
def e10_1 (p0_t : Option Addr) (p23_t_a : Option Addr) (p23_t_n : Nat) (p23_t_c : Nat) (p24_t : Int) (p25_t : Int) : Env := [(0, SV.v (Value.pointer p0_t)), (23, SV.v (Value.slice p23_t_a p23_t_n p23_t_c)), (24, SV.v (Value.int IntKind.i64 p24_t)), (25, SV.v (Value.int IntKind.i64 p25_t))]
def k10_1 (R : Ending → World → Prop) : Cont := blockK 1 [] (seqK (fun E w => cutB (findL M10.cuts (headReg c10_0)) Tryd.prog M10 c10_0 E w (retK Tryd.prog Tryd.f10.results.toList R) fun E => den Tryd.prog M10 c10_0 E w (retK Tryd.prog Tryd.f10.results.toList R)) (retK Tryd.prog Tryd.f10.results.toList R))
theorem b10 : Tryd.f10.body = some c10 := by kernel_rfl
theorem n10 : Tryd.f10.ntmps = M10.N := by kernel_rfl
theorem u10 {p0_t : Option Addr} {w : World} {R : Ending → World → Prop} (h : den Tryd.prog M10 c10 (argE 0 [(Value.pointer p0_t)]) w (retK Tryd.prog Tryd.f10.results.toList R)) : Calls Tryd.prog 10 #[(Value.pointer p0_t)] w R := calls_den okProg Tryd.func10 b10 n10 (Nat.le_of_ble_eq_true rfl) h
theorem t10 (p0_t : Option Addr) (w : World) (R : Ending → World → Prop) : den Tryd.prog M10 c10 (argE 0 [(Value.pointer p0_t)]) w (retK Tryd.prog Tryd.f10.results.toList R) =
((Option.isNone p0_t = true →
    R (Ending.returned (Value.tuple #[Value.int IntKind.i64 0, Value.int IntKind.i64 1])) w) ∧
  (Option.isNone p0_t = false →
    ∀ (w' : World),
      World.heap w' = World.heap w →
        World.os w' = World.os w →
          World.tape w' = World.tape w →
            World.output w' = World.output w →
              ∃ a,
                p0_t = some a ∧
                  ∃ n,
                    World.cell? w' (Addr.add a 2) = some (Value.int IntKind.i64 n) ∧
                      ∃ a,
                        p0_t = some a ∧
                          ∃ n_1,
                            World.cell? w' (Addr.add a 1) = some (Value.int IntKind.i64 n_1) ∧
                              ((n == n_1) = true →
                                  R
                                    (Ending.returned
                                      (Value.tuple #[Value.int IntKind.i64 0, Value.int IntKind.i64 5]))
                                    w') ∧
                                ((n == n_1) = false →
                                  ∃ a,
                                    p0_t = some a ∧
                                      ∃ p n c,
                                        World.cell? w' (Addr.add a 0) = some (Value.slice p n c) ∧
                                          Cut
                                            (WP Tryd.prog 59 (Code.loop c10_1)
                                              (e10_1 p0_t p n c (↑n : Int) (0 : Int)) w' (k10_1 R))))) := by kernel_rfl
theorem t10_1 (p0_t : Option Addr) (p23_t_a : Option Addr) (p23_t_n : Nat) (p23_t_c : Nat) (p24_t : Int) (p25_t : Int) (w : World) (B10_1 : Env → World → Prop) (R : Ending → World → Prop) : den Tryd.prog M10 c10_1 (e10_1 p0_t p23_t_a p23_t_n p23_t_c p24_t p25_t) w (loopK B10_1 (k10_1 R)) =
((decide (p25_t < p24_t) = true →
    ((0 : Int) ≤ p25_t ∧ p25_t < (↑p23_t_n : Int)) ∧
      ∃ a,
        p23_t_a = some a ∧
          ∃ n,
            World.cell? w (Addr.add a (Int.toNat p25_t * 1)) = some (Value.int IntKind.u64 n) ∧
              Call Tryd.prog 21
                [Value.int IntKind.u64
                    (bitsOp BinOp.xor IntKind.u64
                      (match false with
                      | true => (-1 : Int)
                      | false => IntKind.max IntKind.u64)
                      n)]
                w fun e w' =>
                ∃ n,
                  e = Ending.returned (Value.int IntKind.i64 n) ∧
                    (decide (n < (64 : Int)) = true →
                        ∀ (w'_1 : World),
                          World.heap w'_1 = World.heap w' →
                            World.os w'_1 = World.os w' →
                              World.tape w'_1 = World.tape w' →
                                World.output w'_1 = World.output w' →
                                  ∃ a,
                                    p0_t = some a ∧
                                      ∃ p n_1 c,
                                        World.cell? w'_1 (Addr.add a 0) = some (Value.slice p n_1 c) ∧
                                          ((0 : Int) ≤ p25_t ∧ p25_t < (↑n_1 : Int)) ∧
                                            ∃ a,
                                              p = some a ∧
                                                ∃ n_2,
                                                  World.cell? w'_1 (Addr.add a (Int.toNat p25_t * 1)) =
                                                      some (Value.int IntKind.u64 n_2) ∧
                                                    (0 : Int) ≤ n ∧
                                                      ((0 : Int) ≤ p25_t ∧ p25_t < (↑n_1 : Int)) ∧
                                                        ∃ a,
                                                          p = some a ∧
                                                            Wr w'_1 (Addr.add a (Int.toNat p25_t * 1))
                                                              [Value.int IntKind.u64
                                                                  (bitsOp BinOp.or IntKind.u64 n_2
                                                                    (shlOp IntKind.u64 (1 : Int) n))]
                                                              fun w' =>
                                                              ∃ a,
                                                                p0_t = some a ∧
                                                                  ∃ n_3,
                                                                    World.cell? w' (Addr.add a 2) =
                                                                        some (Value.int IntKind.i64 n_3) ∧
                                                                      ∃ a,
                                                                        p0_t = some a ∧
                                                                          Wr w' (Addr.add a 2)
                                                                            [Value.int IntKind.i64
                                                                                (IntKind.wrap IntKind.i64
                                                                                  (n_3 + (1 : Int)))]
                                                                            fun w' =>
                                                                            R
                                                                              (Ending.returned
                                                                                (Value.tuple
                                                                                  #[Value.int IntKind.i64
                                                                                      (IntKind.wrap IntKind.i64
                                                                                        (IntKind.wrap IntKind.i64
                                                                                            (IntKind.wrap IntKind.i64
                                                                                                (p25_t * (64 : Int)) +
                                                                                              n) +
                                                                                          (1 : Int))),
                                                                                    Value.int IntKind.i64 0]))
                                                                              w') ∧
                      (decide (n < (64 : Int)) = false →
                        B10_1
                          [(0, SV.v (Value.pointer p0_t)),
                            (23, SV.v (Value.slice p23_t_a p23_t_n p23_t_c)),
                            (24, SV.v (Value.int IntKind.i64 p24_t)),
                            (25, SV.v (Value.int IntKind.i64 (IntKind.wrap IntKind.i64 (p25_t + (1 : Int)))))]
                          w')) ∧
  (decide (p25_t < p24_t) = false →
    R (Ending.returned (Value.tuple #[Value.int IntKind.i64 0, Value.int IntKind.i64 5])) w)) := by kernel_rfl
/-! davit/davitref04.New -/
def M11 : Mt := { N := 29, keep := [(0, [0]), (1, [0, 11]), (2, [2, 3]), (3, [0, 4]), (4, [0, 4, 5]), (5, [0, 4, 5, 16]), (6, [0, 4, 5]), (7, [0, 4, 5]), (8, [2, 3])], ords := [], bk := [(0, [4]), (1, [0, 4, 5])], cuts := [], lk := [(5, [0, 4, 5])] }
noncomputable def c11 : Code := bodyOf Tryd.f11
noncomputable def c11_0 : Code := c11.sr.sr.sr.sr
noncomputable def c11_1 : Code := c11.sr.sr.sr.sl.sr.sl.sl
def e11_1 (p0_most : Int) (p4_t : Option Addr) (p5_i : Int) : Env := [(0, SV.v (Value.int IntKind.i64 p0_most)), (4, SV.v (Value.pointer p4_t)), (5, SV.v (Value.int IntKind.i64 p5_i))]
def k11_1 (R : Ending → World → Prop) : Cont := blockK 0 [4] (seqK (fun E w => cutB (findL M11.cuts (headReg c11_0)) Tryd.prog M11 c11_0 E w (retK Tryd.prog Tryd.f11.results.toList R) fun E => den Tryd.prog M11 c11_0 E w (retK Tryd.prog Tryd.f11.results.toList R)) (retK Tryd.prog Tryd.f11.results.toList R))
theorem b11 : Tryd.f11.body = some c11 := by kernel_rfl
theorem n11 : Tryd.f11.ntmps = M11.N := by kernel_rfl
theorem u11 {p0_most : Int} {w : World} {R : Ending → World → Prop} (h : den Tryd.prog M11 c11 (argE 0 [(Value.int IntKind.i64 p0_most)]) w (retK Tryd.prog Tryd.f11.results.toList R)) : Calls Tryd.prog 11 #[(Value.int IntKind.i64 p0_most)] w R := calls_den okProg Tryd.func11 b11 n11 (Nat.le_of_ble_eq_true rfl) h
theorem t11 (p0_most : Int) (w : World) (R : Ending → World → Prop) : den Tryd.prog M11 c11 (argE 0 [(Value.int IntKind.i64 p0_most)]) w (retK Tryd.prog Tryd.f11.results.toList R) =
((decide (p0_most < (1 : Int)) = false →
    (decide (p0_most > (1024 : Int)) = true →
        R (Ending.returned (Value.tuple #[Value.pointer none, Value.int IntKind.i64 2])) w) ∧
      (decide (p0_most > (1024 : Int)) = false →
        New w [Value.slice none 0 0] 50 fun p w' =>
          Cut (WP Tryd.prog 29 (Code.loop c11_1) (e11_1 p0_most (some p) (0 : Int)) w' (k11_1 R)))) ∧
  (decide (p0_most < (1 : Int)) = true →
    R (Ending.returned (Value.tuple #[Value.pointer none, Value.int IntKind.i64 2])) w)) := by kernel_rfl
theorem t11_1 (p0_most : Int) (p4_t : Option Addr) (p5_i : Int) (w : World) (B11_1 : Env → World → Prop) (R : Ending → World → Prop) : den Tryd.prog M11 c11_1 (e11_1 p0_most p4_t p5_i) w (loopK B11_1 (k11_1 R)) =
((decide (p5_i ≤ p0_most) = true →
    ∃ a,
      p4_t = some a ∧
        ∃ p n c,
          World.cell? w (Addr.add a 0) = some (Value.slice p n c) ∧
            New w [Value.bool false] 4 fun p_1 w' =>
              ∃ p_2 n_1 c_1 w'_1,
                Sem.run Tryd.prog
                      (Builtin.append_ #[48, 48] 48
                        #[Value.slice p n c, Value.slice (some p_1) 1 1])
                      w' =
                    Result.ok (Value.slice p_2 n_1 c_1) w'_1 ∧
                  ∃ a,
                    p4_t = some a ∧
                      Wr w'_1 (Addr.add a 0) [Value.slice p_2 n_1 c_1] fun w' =>
                        B11_1
                          [(0, SV.v (Value.int IntKind.i64 p0_most)), (4, SV.v (Value.pointer p4_t)),
                            (5, SV.v (Value.int IntKind.i64 (IntKind.wrap IntKind.i64 (p5_i + (1 : Int)))))]
                          w') ∧
  (decide (p5_i ≤ p0_most) = false →
    R (Ending.returned (Value.tuple #[Value.pointer p4_t, Value.int IntKind.i64 0])) w)) := by kernel_rfl
/-! (*davit/davitref04.Table).Take -/
def M12 : Mt := { N := 29, keep := [(0, [0]), (1, [0, 4]), (2, [0, 4, 11]), (3, [0, 4]), (4, [0, 4, 21]), (5, [4]), (6, [2, 3]), (7, [2, 3])], ords := [], bk := [(0, []), (1, [0, 4])], cuts := [], lk := [(2, [0, 4])] }
noncomputable def c12 : Code := bodyOf Tryd.f12
noncomputable def c12_0 : Code := c12.sr.sr
noncomputable def c12_1 : Code := c12.sr.sl.sr.sl.sl
def e12_1 (p0_t : Option Addr) (p4_i : Int) : Env := [(0, SV.v (Value.pointer p0_t)), (4, SV.v (Value.int IntKind.i64 p4_i))]
def k12_1 (R : Ending → World → Prop) : Cont := blockK 0 [] (seqK (fun E w => cutB (findL M12.cuts (headReg c12_0)) Tryd.prog M12 c12_0 E w (retK Tryd.prog Tryd.f12.results.toList R) fun E => den Tryd.prog M12 c12_0 E w (retK Tryd.prog Tryd.f12.results.toList R)) (retK Tryd.prog Tryd.f12.results.toList R))
theorem b12 : Tryd.f12.body = some c12 := by kernel_rfl
theorem n12 : Tryd.f12.ntmps = M12.N := by kernel_rfl
theorem u12 {p0_t : Option Addr} {w : World} {R : Ending → World → Prop} (h : den Tryd.prog M12 c12 (argE 0 [(Value.pointer p0_t)]) w (retK Tryd.prog Tryd.f12.results.toList R)) : Calls Tryd.prog 12 #[(Value.pointer p0_t)] w R := calls_den okProg Tryd.func12 b12 n12 (Nat.le_of_ble_eq_true rfl) h
theorem t12 (p0_t : Option Addr) (w : World) (R : Ending → World → Prop) : den Tryd.prog M12 c12 (argE 0 [(Value.pointer p0_t)]) w (retK Tryd.prog Tryd.f12.results.toList R) =
(Cut (WP Tryd.prog 29 (Code.loop c12_1) (e12_1 p0_t (1 : Int)) w (k12_1 R))) := by kernel_rfl
theorem t12_1 (p0_t : Option Addr) (p4_i : Int) (w : World) (B12_1 : Env → World → Prop) (R : Ending → World → Prop) : den Tryd.prog M12 c12_1 (e12_1 p0_t p4_i) w (loopK B12_1 (k12_1 R)) =
(∃ a,
  p0_t = some a ∧
    ∃ p n c,
      World.cell? w (Addr.add a 0) = some (Value.slice p n c) ∧
        (decide (p4_i < (↑n : Int)) = true →
            ∃ a,
              p0_t = some a ∧
                ∃ p n c,
                  World.cell? w (Addr.add a 0) = some (Value.slice p n c) ∧
                    ((0 : Int) ≤ p4_i ∧ p4_i < (↑n : Int)) ∧
                      ∃ a,
                        p = some a ∧
                          ∃ b,
                            World.cell? w (Addr.add a (Int.toNat p4_i * 1)) = some (Value.bool b) ∧
                              ((!b) = true →
                                  ∃ a,
                                    p0_t = some a ∧
                                      ∃ p n c,
                                        World.cell? w (Addr.add a 0) = some (Value.slice p n c) ∧
                                          ((0 : Int) ≤ p4_i ∧ p4_i < (↑n : Int)) ∧
                                            ∃ a,
                                              p = some a ∧
                                                Wr w (Addr.add a (Int.toNat p4_i * 1)) [Value.bool true]
                                                  fun w' =>
                                                  R
                                                    (Ending.returned
                                                      (Value.tuple
                                                        #[Value.int IntKind.i64 p4_i,
                                                          Value.int IntKind.i64 0]))
                                                    w') ∧
                                ((!b) = false →
                                  B12_1
                                    [(0, SV.v (Value.pointer p0_t)),
                                      (4,
                                        SV.v (Value.int IntKind.i64 (IntKind.wrap IntKind.i64 (p4_i + (1 : Int)))))]
                                    w)) ∧
          (decide (p4_i < (↑n : Int)) = false →
            R (Ending.returned (Value.tuple #[Value.int IntKind.i64 0, Value.int IntKind.i64 5])) w)) := by kernel_rfl
/-! (*davit/davitref04.Table).Give -/
def M13 : Mt := { N := 15, keep := [(0, [0, 1]), (1, [0, 1, 8]), (2, [4]), (3, []), (4, [4])], ords := [], bk := [], cuts := [], lk := [] }
noncomputable def c13 : Code := bodyOf Tryd.f13
theorem b13 : Tryd.f13.body = some c13 := by kernel_rfl
theorem n13 : Tryd.f13.ntmps = M13.N := by kernel_rfl
theorem u13 {p0_t : Option Addr} {p1_n : Int} {w : World} {R : Ending → World → Prop} (h : den Tryd.prog M13 c13 (argE 0 [(Value.pointer p0_t), (Value.int IntKind.i64 p1_n)]) w (retK Tryd.prog Tryd.f13.results.toList R)) : Calls Tryd.prog 13 #[(Value.pointer p0_t), (Value.int IntKind.i64 p1_n)] w R := calls_den okProg Tryd.func13 b13 n13 (Nat.le_of_ble_eq_true rfl) h
theorem t13 (p0_t : Option Addr) (p1_n : Int) (w : World) (R : Ending → World → Prop) : den Tryd.prog M13 c13 (argE 0 [(Value.pointer p0_t), (Value.int IntKind.i64 p1_n)]) w (retK Tryd.prog Tryd.f13.results.toList R) =
(Call Tryd.prog 18 [Value.pointer p0_t, Value.int IntKind.i64 p1_n] w fun e w' =>
  ∃ b,
    e = Ending.returned (Value.bool b) ∧
      ((!b) = true → R (Ending.returned (Value.int IntKind.i64 4)) w') ∧
        ((!b) = false →
          ∃ a,
            p0_t = some a ∧
              ∃ p n c,
                World.cell? w' (Addr.add a 0) = some (Value.slice p n c) ∧
                  ((0 : Int) ≤ p1_n ∧ p1_n < (↑n : Int)) ∧
                    ∃ a,
                      p = some a ∧
                        Wr w' (Addr.add a (Int.toNat p1_n * 1)) [Value.bool false] fun w' =>
                          R (Ending.returned (Value.int IntKind.i64 0)) w')) := by kernel_rfl
/-! (*davit/davitref04.Table).List -/
def M14 : Mt := { N := 26, keep := [(0, [0]), (1, [0, 3]), (2, [0, 3, 4]), (3, [0, 3, 4, 11]), (4, [0, 3, 4]), (5, [0, 3, 4, 20]), (6, [0, 3, 4]), (7, [2])], ords := [], bk := [(0, [3]), (1, [0, 3, 4])], cuts := [], lk := [(3, [0, 3, 4])] }
noncomputable def c14 : Code := bodyOf Tryd.f14
noncomputable def c14_0 : Code := c14.sr.sr.sr
noncomputable def c14_1 : Code := c14.sr.sr.sl.sr.sl.sl
def e14_1 (p0_t : Option Addr) (p3_out_a : Option Addr) (p3_out_n : Nat) (p3_out_c : Nat) (p4_i : Int) : Env := [(0, SV.v (Value.pointer p0_t)), (3, SV.v (Value.slice p3_out_a p3_out_n p3_out_c)), (4, SV.v (Value.int IntKind.i64 p4_i))]
def k14_1 (R : Ending → World → Prop) : Cont := blockK 0 [3] (seqK (fun E w => cutB (findL M14.cuts (headReg c14_0)) Tryd.prog M14 c14_0 E w (retK Tryd.prog Tryd.f14.results.toList R) fun E => den Tryd.prog M14 c14_0 E w (retK Tryd.prog Tryd.f14.results.toList R)) (retK Tryd.prog Tryd.f14.results.toList R))
theorem b14 : Tryd.f14.body = some c14 := by kernel_rfl
theorem n14 : Tryd.f14.ntmps = M14.N := by kernel_rfl
theorem u14 {p0_t : Option Addr} {w : World} {R : Ending → World → Prop} (h : den Tryd.prog M14 c14 (argE 0 [(Value.pointer p0_t)]) w (retK Tryd.prog Tryd.f14.results.toList R)) : Calls Tryd.prog 14 #[(Value.pointer p0_t)] w R := calls_den okProg Tryd.func14 b14 n14 (Nat.le_of_ble_eq_true rfl) h
theorem t14 (p0_t : Option Addr) (w : World) (R : Ending → World → Prop) : den Tryd.prog M14 c14 (argE 0 [(Value.pointer p0_t)]) w (retK Tryd.prog Tryd.f14.results.toList R) =
(Cut (WP Tryd.prog 26 (Code.loop c14_1) (e14_1 p0_t none 0 0 (1 : Int)) w (k14_1 R))) := by kernel_rfl
theorem t14_1 (p0_t : Option Addr) (p3_out_a : Option Addr) (p3_out_n : Nat) (p3_out_c : Nat) (p4_i : Int) (w : World) (B14_1 : Env → World → Prop) (R : Ending → World → Prop) : den Tryd.prog M14 c14_1 (e14_1 p0_t p3_out_a p3_out_n p3_out_c p4_i) w (loopK B14_1 (k14_1 R)) =
(∃ a,
  p0_t = some a ∧
    ∃ p n c,
      World.cell? w (Addr.add a 0) = some (Value.slice p n c) ∧
        (decide (p4_i < (↑n : Int)) = true →
            ∃ a,
              p0_t = some a ∧
                ∃ p n c,
                  World.cell? w (Addr.add a 0) = some (Value.slice p n c) ∧
                    ((0 : Int) ≤ p4_i ∧ p4_i < (↑n : Int)) ∧
                      ∃ a,
                        p = some a ∧
                          ∃ b,
                            World.cell? w (Addr.add a (Int.toNat p4_i * 1)) = some (Value.bool b) ∧
                              (b = true →
                                  New w [Value.int IntKind.i64 p4_i] 3 fun p w' =>
                                    ∃ p_1 n c w'_1,
                                      Sem.run Tryd.prog
                                            (Builtin.append_ #[22, 22] 22
                                              #[Value.slice p3_out_a p3_out_n p3_out_c,
                                                Value.slice (some p) 1 1])
                                            w' =
                                          Result.ok (Value.slice p_1 n c) w'_1 ∧
                                        B14_1
                                          [(0, SV.v (Value.pointer p0_t)),
                                            (3, SV.v (Value.slice p_1 n c)),
                                            (4,
                                              SV.v
                                                (Value.int IntKind.i64 (IntKind.wrap IntKind.i64 (p4_i + (1 : Int)))))]
                                          w'_1) ∧
                                (b = false →
                                  B14_1
                                    [(0, SV.v (Value.pointer p0_t)),
                                      (3, SV.v (Value.slice p3_out_a p3_out_n p3_out_c)),
                                      (4,
                                        SV.v (Value.int IntKind.i64 (IntKind.wrap IntKind.i64 (p4_i + (1 : Int)))))]
                                    w)) ∧
          (decide (p4_i < (↑n : Int)) = false → R (Ending.returned (Value.slice p3_out_a p3_out_n p3_out_c)) w)) := by kernel_rfl
/-! (*davit/slot.Table).Len -/
def M15 : Mt := { N := 9, keep := [(0, [0]), (1, [0, 4]), (2, [2]), (3, [2])], ords := [], bk := [], cuts := [], lk := [] }
noncomputable def c15 : Code := bodyOf Tryd.f15
theorem b15 : Tryd.f15.body = some c15 := by kernel_rfl
theorem n15 : Tryd.f15.ntmps = M15.N := by kernel_rfl
theorem u15 {p0_t : Option Addr} {w : World} {R : Ending → World → Prop} (h : den Tryd.prog M15 c15 (argE 0 [(Value.pointer p0_t)]) w (retK Tryd.prog Tryd.f15.results.toList R)) : Calls Tryd.prog 15 #[(Value.pointer p0_t)] w R := calls_den okProg Tryd.func15 b15 n15 (Nat.le_of_ble_eq_true rfl) h
theorem t15 (p0_t : Option Addr) (w : World) (R : Ending → World → Prop) : den Tryd.prog M15 c15 (argE 0 [(Value.pointer p0_t)]) w (retK Tryd.prog Tryd.f15.results.toList R) =
((Option.isNone p0_t = true → R (Ending.returned (Value.int IntKind.i64 0)) w) ∧
  (Option.isNone p0_t = false →
    ∃ a,
      p0_t = some a ∧
        ∃ n,
          World.cell? w (Addr.add a 2) = some (Value.int IntKind.i64 n) ∧
            R (Ending.returned (Value.int IntKind.i64 n)) w)) := by kernel_rfl
/-! (*davit/slot.Table).Cap -/
def M16 : Mt := { N := 9, keep := [(0, [0]), (1, [0, 4]), (2, [2]), (3, [2])], ords := [], bk := [], cuts := [], lk := [] }
noncomputable def c16 : Code := bodyOf Tryd.f16
theorem b16 : Tryd.f16.body = some c16 := by kernel_rfl
theorem n16 : Tryd.f16.ntmps = M16.N := by kernel_rfl
theorem u16 {p0_t : Option Addr} {w : World} {R : Ending → World → Prop} (h : den Tryd.prog M16 c16 (argE 0 [(Value.pointer p0_t)]) w (retK Tryd.prog Tryd.f16.results.toList R)) : Calls Tryd.prog 16 #[(Value.pointer p0_t)] w R := calls_den okProg Tryd.func16 b16 n16 (Nat.le_of_ble_eq_true rfl) h
theorem t16 (p0_t : Option Addr) (w : World) (R : Ending → World → Prop) : den Tryd.prog M16 c16 (argE 0 [(Value.pointer p0_t)]) w (retK Tryd.prog Tryd.f16.results.toList R) =
((Option.isNone p0_t = true → R (Ending.returned (Value.int IntKind.i64 0)) w) ∧
  (Option.isNone p0_t = false →
    ∃ a,
      p0_t = some a ∧
        ∃ n,
          World.cell? w (Addr.add a 1) = some (Value.int IntKind.i64 n) ∧
            R (Ending.returned (Value.int IntKind.i64 n)) w)) := by kernel_rfl
/-! (*davit/slot.Table).Has -/
def M17 : Mt := { N := 23, keep := [(0, [0, 1]), (1, [5, 6]), (2, [4])], ords := [], bk := [], cuts := [], lk := [] }
noncomputable def c17 : Code := bodyOf Tryd.f17
theorem b17 : Tryd.f17.body = some c17 := by kernel_rfl
theorem n17 : Tryd.f17.ntmps = M17.N := by kernel_rfl
theorem u17 {p0_t : Option Addr} {p1_n : Int} {w : World} {R : Ending → World → Prop} (h : den Tryd.prog M17 c17 (argE 0 [(Value.pointer p0_t), (Value.int IntKind.i64 p1_n)]) w (retK Tryd.prog Tryd.f17.results.toList R)) : Calls Tryd.prog 17 #[(Value.pointer p0_t), (Value.int IntKind.i64 p1_n)] w R := calls_den okProg Tryd.func17 b17 n17 (Nat.le_of_ble_eq_true rfl) h
theorem t17 (p0_t : Option Addr) (p1_n : Int) (w : World) (R : Ending → World → Prop) : den Tryd.prog M17 c17 (argE 0 [(Value.pointer p0_t), (Value.int IntKind.i64 p1_n)]) w (retK Tryd.prog Tryd.f17.results.toList R) =
(Call Tryd.prog 20 [Value.pointer p0_t, Value.int IntKind.i64 p1_n] w fun e w' =>
  ∃ p n,
    e = Ending.returned (Value.tuple #[Value.pointer p, Value.int IntKind.u64 n]) ∧
      ((!Option.isNone p) = true →
          ∃ a,
            p = some a ∧
              ∃ n_1,
                World.cell? w' a = some (Value.int IntKind.u64 n_1) ∧
                  R (Ending.returned (Value.bool (bitsOp BinOp.and IntKind.u64 n_1 n != (0 : Int)))) w') ∧
        ((!Option.isNone p) = false → R (Ending.returned (Value.bool false)) w')) := by kernel_rfl
/-! (*davit/davitref04.Table).Has -/
def M18 : Mt := { N := 25, keep := [(0, [0, 1]), (1, [4])], ords := [], bk := [], cuts := [], lk := [] }
noncomputable def c18 : Code := bodyOf Tryd.f18
theorem b18 : Tryd.f18.body = some c18 := by kernel_rfl
theorem n18 : Tryd.f18.ntmps = M18.N := by kernel_rfl
theorem u18 {p0_t : Option Addr} {p1_n : Int} {w : World} {R : Ending → World → Prop} (h : den Tryd.prog M18 c18 (argE 0 [(Value.pointer p0_t), (Value.int IntKind.i64 p1_n)]) w (retK Tryd.prog Tryd.f18.results.toList R)) : Calls Tryd.prog 18 #[(Value.pointer p0_t), (Value.int IntKind.i64 p1_n)] w R := calls_den okProg Tryd.func18 b18 n18 (Nat.le_of_ble_eq_true rfl) h
theorem t18 (p0_t : Option Addr) (p1_n : Int) (w : World) (R : Ending → World → Prop) : den Tryd.prog M18 c18 (argE 0 [(Value.pointer p0_t), (Value.int IntKind.i64 p1_n)]) w (retK Tryd.prog Tryd.f18.results.toList R) =
((decide (p1_n > (0 : Int)) = true →
    ∃ a,
      p0_t = some a ∧
        ∃ p n c,
          World.cell? w (Addr.add a 0) = some (Value.slice p n c) ∧
            (decide (p1_n < (↑n : Int)) = true →
                ∃ a,
                  p0_t = some a ∧
                    ∃ p n c,
                      World.cell? w (Addr.add a 0) = some (Value.slice p n c) ∧
                        ((0 : Int) ≤ p1_n ∧ p1_n < (↑n : Int)) ∧
                          ∃ a,
                            p = some a ∧
                              ∃ b,
                                World.cell? w (Addr.add a (Int.toNat p1_n * 1)) = some (Value.bool b) ∧
                                  R (Ending.returned (Value.bool b)) w) ∧
              (decide (p1_n < (↑n : Int)) = false → R (Ending.returned (Value.bool false)) w)) ∧
  (decide (p1_n > (0 : Int)) = false → R (Ending.returned (Value.bool false)) w)) := by kernel_rfl
/-! davit/davitref01.Ints -/
def M19 : Mt := { N := 26, keep := [(0, [0, 1]), (1, [0, 1, 10]), (2, [4]), (3, [0, 1, 5]), (4, [0, 1, 5, 14]), (5, [0, 1, 5]), (6, [0, 1, 5, 25]), (7, [4]), (8, [4])], ords := [(6, [0, 1, 2, 3, 4, 5, 6, 7, 8])], bk := [(0, []), (1, [0, 1, 5])], cuts := [], lk := [(4, [0, 1, 5])] }
noncomputable def c19 : Code := bodyOf Tryd.f19
noncomputable def c19_0 : Code := c19.sr.sr.sr
noncomputable def c19_1 : Code := c19.sr.sr.sl.sr.sl.sl
def e19_1 (p0_a_a : Option Addr) (p0_a_n : Nat) (p0_a_c : Nat) (p1_b_a : Option Addr) (p1_b_n : Nat) (p1_b_c : Nat) (p5_i : Int) : Env := [(0, SV.v (Value.slice p0_a_a p0_a_n p0_a_c)), (1, SV.v (Value.slice p1_b_a p1_b_n p1_b_c)), (5, SV.v (Value.int IntKind.i64 p5_i))]
def k19_1 (R : Ending → World → Prop) : Cont := blockK 0 [] (seqK (fun E w => cutB (findL M19.cuts (headReg c19_0)) Tryd.prog M19 c19_0 E w (retK Tryd.prog Tryd.f19.results.toList R) fun E => den Tryd.prog M19 c19_0 E w (retK Tryd.prog Tryd.f19.results.toList R)) (retK Tryd.prog Tryd.f19.results.toList R))
theorem b19 : Tryd.f19.body = some c19 := by kernel_rfl
theorem n19 : Tryd.f19.ntmps = M19.N := by kernel_rfl
theorem u19 {p0_a_a : Option Addr} {p0_a_n : Nat} {p0_a_c : Nat} {p1_b_a : Option Addr} {p1_b_n : Nat} {p1_b_c : Nat} {w : World} {R : Ending → World → Prop} (h : den Tryd.prog M19 c19 (argE 0 [(Value.slice p0_a_a p0_a_n p0_a_c), (Value.slice p1_b_a p1_b_n p1_b_c)]) w (retK Tryd.prog Tryd.f19.results.toList R)) : Calls Tryd.prog 19 #[(Value.slice p0_a_a p0_a_n p0_a_c), (Value.slice p1_b_a p1_b_n p1_b_c)] w R := calls_den okProg Tryd.func19 b19 n19 (Nat.le_of_ble_eq_true rfl) h
theorem t19 (p0_a_a : Option Addr) (p0_a_n : Nat) (p0_a_c : Nat) (p1_b_a : Option Addr) (p1_b_n : Nat) (p1_b_c : Nat) (w : World) (R : Ending → World → Prop) : den Tryd.prog M19 c19 (argE 0 [(Value.slice p0_a_a p0_a_n p0_a_c), (Value.slice p1_b_a p1_b_n p1_b_c)]) w (retK Tryd.prog Tryd.f19.results.toList R) =
((((↑p0_a_n : Int) != (↑p1_b_n : Int)) = true → R (Ending.returned (Value.bool false)) w) ∧
  (((↑p0_a_n : Int) != (↑p1_b_n : Int)) = false →
    Cut
      (WP Tryd.prog 26 (Code.loop c19_1) (e19_1 p0_a_a p0_a_n p0_a_c p1_b_a p1_b_n p1_b_c (0 : Int)) w
        (k19_1 R)))) := by kernel_rfl
theorem t19_1 (p0_a_a : Option Addr) (p0_a_n : Nat) (p0_a_c : Nat) (p1_b_a : Option Addr) (p1_b_n : Nat) (p1_b_c : Nat) (p5_i : Int) (w : World) (B19_1 : Env → World → Prop) (R : Ending → World → Prop) : den Tryd.prog M19 c19_1 (e19_1 p0_a_a p0_a_n p0_a_c p1_b_a p1_b_n p1_b_c p5_i) w (loopK B19_1 (k19_1 R)) =
((decide (p5_i < (↑p0_a_n : Int)) = true →
    ∀ (w' : World),
      World.heap w' = World.heap w →
        World.os w' = World.os w →
          World.tape w' = World.tape w →
            World.output w' = World.output w →
              ((0 : Int) ≤ p5_i ∧ p5_i < (↑p0_a_n : Int)) ∧
                ∃ a,
                  p0_a_a = some a ∧
                    ∃ n,
                      World.cell? w' (Addr.add a (Int.toNat p5_i * 1)) = some (Value.int IntKind.i64 n) ∧
                        ((0 : Int) ≤ p5_i ∧ p5_i < (↑p1_b_n : Int)) ∧
                          ∃ a,
                            p1_b_a = some a ∧
                              ∃ n_1,
                                World.cell? w' (Addr.add a (Int.toNat p5_i * 1)) =
                                    some (Value.int IntKind.i64 n_1) ∧
                                  ((n != n_1) = true → R (Ending.returned (Value.bool false)) w') ∧
                                    ((n != n_1) = false →
                                      B19_1
                                        [(0, SV.v (Value.slice p0_a_a p0_a_n p0_a_c)),
                                          (1, SV.v (Value.slice p1_b_a p1_b_n p1_b_c)),
                                          (5,
                                            SV.v
                                              (Value.int IntKind.i64 (IntKind.wrap IntKind.i64 (p5_i + (1 : Int)))))]
                                        w')) ∧
  (decide (p5_i < (↑p0_a_n : Int)) = false → R (Ending.returned (Value.bool true)) w)) := by kernel_rfl
/-! (*davit/slot.Table).bit -/
def M20 : Mt := { N := 32, keep := [(0, [0, 1]), (1, [0, 1, 19]), (2, [4, 5]), (3, [4, 5])], ords := [(3, [0, 1, 2, 3, 4, 5, 6, 7, 8, 9, 10, 11, 12, 13])], bk := [], cuts := [], lk := [] }
noncomputable def c20 : Code := bodyOf Tryd.f20
theorem b20 : Tryd.f20.body = some c20 := by kernel_rfl
theorem n20 : Tryd.f20.ntmps = M20.N := by kernel_rfl
theorem u20 {p0_t : Option Addr} {p1_n : Int} {w : World} {R : Ending → World → Prop} (h : den Tryd.prog M20 c20 (argE 0 [(Value.pointer p0_t), (Value.int IntKind.i64 p1_n)]) w (retK Tryd.prog Tryd.f20.results.toList R)) : Calls Tryd.prog 20 #[(Value.pointer p0_t), (Value.int IntKind.i64 p1_n)] w R := calls_den okProg Tryd.func20 b20 n20 (Nat.le_of_ble_eq_true rfl) h
theorem t20 (p0_t : Option Addr) (p1_n : Int) (w : World) (R : Ending → World → Prop) : den Tryd.prog M20 c20 (argE 0 [(Value.pointer p0_t), (Value.int IntKind.i64 p1_n)]) w (retK Tryd.prog Tryd.f20.results.toList R) =
((Option.isNone p0_t = false →
    (decide (p1_n < (1 : Int)) = false →
        ∃ a,
          p0_t = some a ∧
            ∃ n,
              World.cell? w (Addr.add a 1) = some (Value.int IntKind.i64 n) ∧
                (decide (p1_n > n) = true →
                    R (Ending.returned (Value.tuple #[Value.pointer none, Value.int IntKind.u64 0])) w) ∧
                  (decide (p1_n > n) = false →
                    ∀ (w' : World),
                      World.heap w' = World.heap w →
                        World.os w' = World.os w →
                          World.tape w' = World.tape w →
                            World.output w' = World.output w →
                              ∃ a,
                                p0_t = some a ∧
                                  ∃ p n c,
                                    World.cell? w' (Addr.add a 0) = some (Value.slice p n c) ∧
                                      (64 : Int) ≠ (0 : Int) ∧
                                        ((0 : Int) ≤
                                              IntKind.wrap IntKind.i64
                                                (Int.tdiv (IntKind.wrap IntKind.i64 (p1_n - (1 : Int))) (64 : Int)) ∧
                                            IntKind.wrap IntKind.i64
                                                (Int.tdiv (IntKind.wrap IntKind.i64 (p1_n - (1 : Int))) (64 : Int)) <
                                              (↑n : Int)) ∧
                                          ∃ a,
                                            p = some a ∧
                                              (64 : Int) ≠ (0 : Int) ∧
                                                (0 : Int) ≤
                                                    Int.tmod (IntKind.wrap IntKind.i64 (p1_n - (1 : Int))) (64 : Int) ∧
                                                  R
                                                    (Ending.returned
                                                      (Value.tuple
                                                        #[Value.pointer
                                                            (some
                                                              (Addr.add a
                                                                (Int.toNat
                                                                    (IntKind.wrap IntKind.i64
                                                                      (Int.tdiv
                                                                        (IntKind.wrap IntKind.i64 (p1_n - (1 : Int)))
                                                                        (64 : Int))) *
                                                                  1))),
                                                          Value.int IntKind.u64
                                                            (shlOp IntKind.u64 (1 : Int)
                                                              (Int.tmod (IntKind.wrap IntKind.i64 (p1_n - (1 : Int)))
                                                                (64 : Int)))]))
                                                    w')) ∧
      (decide (p1_n < (1 : Int)) = true →
        R (Ending.returned (Value.tuple #[Value.pointer none, Value.int IntKind.u64 0])) w)) ∧
  (Option.isNone p0_t = true →
    R (Ending.returned (Value.tuple #[Value.pointer none, Value.int IntKind.u64 0])) w)) := by kernel_rfl
/-! math/bits.TrailingZeros64 -/
def M21 : Mt := { N := 14, keep := [(0, [0]), (1, [0, 4]), (2, [2]), (3, [2])], ords := [], bk := [], cuts := [], lk := [] }
noncomputable def c21 : Code := bodyOf Tryd.f21
theorem b21 : Tryd.f21.body = some c21 := by kernel_rfl
theorem n21 : Tryd.f21.ntmps = M21.N := by kernel_rfl
theorem u21 {p0_x : Int} {w : World} {R : Ending → World → Prop} (h : den Tryd.prog M21 c21 (argE 0 [(Value.int IntKind.u64 p0_x)]) w (retK Tryd.prog Tryd.f21.results.toList R)) : Calls Tryd.prog 21 #[(Value.int IntKind.u64 p0_x)] w R := calls_den okProg Tryd.func21 b21 n21 (Nat.le_of_ble_eq_true rfl) h
set_option maxRecDepth 100000 in
theorem t21 (p0_x : Int) (w : World) (R : Ending → World → Prop) : den Tryd.prog M21 c21 (argE 0 [(Value.int IntKind.u64 p0_x)]) w (retK Tryd.prog Tryd.f21.results.toList R) =
(((p0_x == (0 : Int)) = true → R (Ending.returned (Value.int IntKind.i64 64)) w) ∧
  ((p0_x == (0 : Int)) = false → (0 : Int) ≤ (58 : Int) ∧ ((0 : Int) ≤ shrOp IntKind.u64 (IntKind.wrap IntKind.u64 (bitsOp BinOp.and IntKind.u64 p0_x (IntKind.wrap IntKind.u64 (0 - p0_x)) * 285870213051353865)) 58 ∧ shrOp IntKind.u64 (IntKind.wrap IntKind.u64 (bitsOp BinOp.and IntKind.u64 p0_x (IntKind.wrap IntKind.u64 (0 - p0_x)) * 285870213051353865)) 58 < ((64 : Nat) : Int)) ∧
    ∃ n, World.cell? w (Addr.add ⟨0, 0, none⟩ (Int.toNat (shrOp IntKind.u64 (IntKind.wrap IntKind.u64 (bitsOp BinOp.and IntKind.u64 p0_x (IntKind.wrap IntKind.u64 (0 - p0_x)) * 285870213051353865)) 58) * 1)) = some (Value.int IntKind.u8 n) ∧ R (Ending.returned (Value.int IntKind.i64 (IntKind.wrap IntKind.i64 n))) w)) := by kernel_rfl
end Go.Dav
